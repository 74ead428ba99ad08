/- The walk of LeaseGrants. -/
import Derived.Test.YtnpjigeljhlomaaLeGrants
namespace Go.Proofs.Ytnpjigeljhlomaa
open Go.ChangeShapes Go.WideShapes Go.ChangeAt Go.RowKit Go.Syn Go.Eng
set_option linter.unusedVariables false
set_option linter.unusedSimpArgs false
structure LOp where
  k : Int
  r : Int
  n : Int
  m : Int
  t : Int
def LOp.dat (s : LOp) : Dat := .parts [.int .i64 s.k, .parts [.int .i64 s.r, .int .i64 s.n], .int .i64 s.m, .int .i64 s.t]
theorem LOp.len (s : LOp) : s.dat.cells.length = 5 := rfl
structure LOp.ok (s : LOp) : Prop where
  m : I64 s.m
  t : I64 s.t
theorem open_lop {w : World} {d : Dat} (h : d.In Try.prog w 33) : ∃ s : LOp, d = s.dat ∧ s.ok := by
  obtain ⟨ds, rfl, g⟩ := in_struct Try.underlying33 h
  obtain ⟨d0, r0, rfl, h0, f1⟩ := inEach_cons g
  obtain ⟨d1, r1, rfl, h1, f2⟩ := inEach_cons f1
  obtain ⟨d2, r2, rfl, h2, f3⟩ := inEach_cons f2
  obtain ⟨d3, r3, rfl, h3, f4⟩ := inEach_cons f3
  obtain rfl := inEach_nil f4
  obtain ⟨k0, rfl, _⟩ := in_int Try.underlying3 h0
  obtain ⟨m0, rfl, e2⟩ := in_int Try.underlying3 h2
  obtain ⟨t0, rfl, e3⟩ := in_int Try.underlying3 h3
  obtain ⟨bs, rfl, gb⟩ := in_struct Try.underlying28 h1
  obtain ⟨b0, q0, rfl, j0, p1⟩ := inEach_cons gb
  obtain ⟨b1, q1, rfl, j1, p2⟩ := inEach_cons p1
  obtain rfl := inEach_nil p2
  obtain ⟨x0, rfl, _⟩ := in_int Try.underlying3 j0
  obtain ⟨x1, rfl, _⟩ := in_int Try.underlying3 j1
  exact ⟨⟨k0, x0, x1, m0, t0⟩, rfl, I64.of_wf e2, I64.of_wf e3⟩
theorem GRel.okg {g m : GrD} (h : GRel g m) : g.ok := ⟨h.l0, h.l1, by have := h.gs; omega, by have := h.gs; omega⟩
theorem GRel.okm {g m : GrD} (h : GRel g m) : m.ok := ⟨h.len ▸ h.l0, h.len ▸ h.l1, by have := h.msn; omega, by have := h.msn; omega⟩
def GrI (n : Nat) (vs : Vals) (hx : HX) : Prop :=
  ∃ (g m : GrD) (k : Nat), k ≤ n ∧ k ≤ 100 ∧ GRel g m ∧ vs = ⟨[(k : Int)] ++ g.vals ++ m.vals, [g.stands, m.stands], [], [], []⟩ ∧ hx = HX.nil
set_option maxHeartbeats 4000000 in
set_option maxRecDepth 100000 in
theorem grants_walk (len now : Int) (anew : Bool) (a : Option Addr) (cap : Nat) (os : List LOp) (w : World) (hok : ∀ o ∈ os, o.ok) (hC : Cells w a (Dat.cellsAll (os.map LOp.dat))) (hl : os.length ≤ 9223372036854775807) :
    Calls Try.prog 3 #[.int .i64 len, .int .i64 now, .bool anew, .slice a os.length cap] w (PureAt w (.bool true)) := by
  refine calls_at (tab_ok _) Try.func3 rfl tLGr (ρ := ⟨[len, now], [anew], [], [os.length, cap], [a]⟩) (ids := []) rfl (Facts.initP rfl oneNil) ?_
  refine node_val ⟨[], [true], [], [], []⟩ (fun w => lhead_any w) (fun _ => rfl) (fun _ => rfl) rfl rfl rfl oneNil ?_
  refine br_f rfl ?_
  refine node_val ⟨[], [decide (now < -1152921504606846976) || decide (now > 1152921504606846976)], [], [], []⟩ (fun w => far_any now w) (fun _ => rfl) (fun _ => rfl) rfl rfl rfl oneNil ?_
  refine br_i (fun g => pure_done fun _ => rfl) (fun hfar => ?_)
  have hn : Near now := by
    simp only [SV.den, LV.den, IE.den, BE.den, NE.den, AE.den, compDen, cellsDen, ifn, cfn, Env.add, List.map_cons, List.map_nil, List.getD_cons_zero, List.getD_cons_succ, List.cons_append, List.nil_append, List.append_nil] at hfar
    simp at hfar
    exact ⟨by omega, by omega⟩
  refine node_newB 61 ⟨(newGr len now anew).vals, [anew], [], [], []⟩ (fun w => newGr_any len now anew w) (fun _ => rfl) rfl (fun _ => rfl) rfl rfl rfl oneNil ?_
  refine node_val ⟨(rNewGr len now anew).vals, [(rNewGr len now anew).stands], [], [], []⟩ (fun w => rNew_any len now anew w) (fun _ => rfl) (fun _ => rfl) rfl rfl rfl oneNil ?_
  refine loop_i (GrI os.length) (fun vs => os.length - (vs.i.headD 0).toNat) (fun ids w hp hf => ⟨HX.nil, HXok.none _ _, newGr len now anew, rNewGr len now anew, 0, by omega, by omega, GRel.new len now anew hn, rfl, rfl⟩) ?_
  rintro vs hx' hcnt ⟨g, m, k, hk1, hk2, hR, rfl, rfl⟩
  have hwk : IntKind.i64.wrap ((k : Int) + 1) = ((k + 1 : Nat) : Int) := by rw [wrap_i64 (by omega)]; omega
  by_cases hk : k < os.length
  · refine br_t (show decide ((k : Int) < (os.length : Int)) = true by simpa using hk) ?_
    by_cases hk80 : k < 100
    · refine br_t (show decide ((k : Int) < 100) = true by simp; omega) ?_
      obtain ⟨s, hs⟩ : ∃ s, os[k]? = some s := ⟨_, List.getElem?_eq_getElem hk⟩
      have hso := hok s (List.mem_of_getElem? hs)
      obtain ⟨hsome, hcell⟩ := cells_elt hC LOp.len (by decide) hs
      refine need_i ⟨hsome, (show (0 : Int) ≤ k by omega), (show (k : Int) < os.length by omega)⟩ ?_
      refine ⟨⟨[s.k, s.r, s.n, s.m, s.t], [], [], [], []⟩, fun ids => hcell _ (fun e => e), ⟨rfl, oneNil⟩, ?_⟩
      refine node_val ⟨[], [decide (s.t < -1152921504606846976) || decide (s.t > 1152921504606846976)], [], [], []⟩ (fun w => far_any s.t w) (fun _ => rfl) (fun _ => rfl) rfl rfl rfl oneNil ?_
      have back : ∀ (g' m' : GrD), GRel g' m' → ∀ vs, vs = ⟨[((k + 1 : Nat) : Int)] ++ g'.vals ++ m'.vals, [g'.stands, m'.stands], [], [], []⟩ → ∀ (w : World) (ids : List Nat),
          ∃ hx', HXok hx' w ids ∧ ∃ I, lkup 8 [(8, fun vs' hx'' => GrI os.length vs' hx'' ∧ os.length - (vs'.i.headD 0).toNat < os.length - (((⟨[(k : Int)] ++ g.vals ++ m.vals, [g.stands, m.stands], [], [], []⟩ : Vals)).i.headD 0).toNat)] = some I ∧ I vs hx' := by
        rintro g' m' hS vs rfl w ids
        refine ⟨HX.nil, HXok.none _ _, _, rfl, ⟨g', m', k + 1, by omega, by omega, hS, rfl, rfl⟩, ?_⟩
        show os.length - (((k + 1 : Nat) : Int)).toNat < os.length - ((k : Int)).toNat
        omega
      have hwrap : ∀ (v1 v2 : List Int) (b1 b2 : Bool), (⟨[IntKind.i64.wrap ((k : Int) + 1)] ++ v1 ++ v2, [b1, b2], [], [], []⟩ : Vals) = ⟨[((k + 1 : Nat) : Int)] ++ v1 ++ v2, [b1, b2], [], [], []⟩ := fun v1 v2 b1 b2 => by rw [hwk]
      refine br_i (fun _ ids w hp hf => back g m hR _ (hwrap _ _ _ _) _ _) (fun hfar => ?_)
      have ht : Near s.t := by
        simp only [SV.den, LV.den, IE.den, BE.den, NE.den, AE.den, compDen, cellsDen, ifn, cfn, Env.add, List.map_cons, List.map_nil, List.getD_cons_zero, List.getD_cons_succ, List.cons_append, List.nil_append, List.append_nil] at hfar
        simp at hfar
        exact ⟨by omega, by omega⟩
      by_cases k0 : s.k = 0
      · refine br_t (show (s.k == 0) = true by simpa using k0) ?_
        refine node_val ⟨(atV m s.t).vals, [(atV m s.t).stands], [], [], []⟩ (fun w => rAt_any m s.t w hR.okm hso.t hR.msn ht) (fun _ => rfl) (fun _ => rfl) rfl rfl rfl oneNil ?_
        refine node_at1 0 61 ⟨(barsV g s.t).vals, [(barsV g s.t).stands, barsB g s.r s.n s.t], [], [], []⟩ (us := g.cells) (us' := (barsV g s.t).cells) (V := .bool (barsB g s.r s.n s.t)) (fun w b h => bars_any b g s.r s.n s.t w hR.okg hso.t h) (fun _ => rfl) rfl (fun _ => rfl) rfl (fun _ => rfl) (fun _ => rfl) rfl rfl oneNil ?_
        obtain ⟨e, hR2⟩ := hR.bars s.r s.n s.t ht
        rcases Bool.eq_false_or_eq_true (atV m s.t).stands with hst | hst
        · refine br_t (show (atV m s.t).stands = true from hst) ?_
          refine br_f (show (!(barsB g s.r s.n s.t == !(((atV m s.t).rnd == s.r) && ((atV m s.t).node == s.n)))) = false by rw [e, hst, beqI, beqI]; simp) ?_
          refine br_f (show (s.k == 1) = false by rw [k0]; rfl) ?_
          exact fun ids w hp hf => back _ _ hR2 _ (hwrap _ _ _ _) _ _
        · refine br_f (show (atV m s.t).stands = false from hst) ?_
          refine br_f (show barsB g s.r s.n s.t = false by rw [e, hst]; rfl) ?_
          refine br_f (show (s.k == 1) = false by rw [k0]; rfl) ?_
          exact fun ids w hp hf => back _ _ hR2 _ (hwrap _ _ _ _) _ _
      · refine br_f (show (s.k == 0) = false by simpa using k0) ?_
        by_cases k1 : s.k = 1
        · refine br_t (show (s.k == 1) = true by simpa using k1) ?_
          refine node_val ⟨(rGrantV m s.r s.n s.t).vals, [(rGrantV m s.r s.n s.t).stands, rGrantB m s.r s.n s.t], [], [], []⟩ (fun w => rGrant_any m s.r s.n s.t w hR.okm hso.t hR.msn ht) (fun _ => rfl) (fun _ => rfl) rfl rfl rfl oneNil ?_
          refine node_at1 0 61 ⟨(grantV g s.r s.n s.t).vals, [(grantV g s.r s.n s.t).stands, grantB g s.r s.n s.t], [], [], []⟩ (us := g.cells) (us' := (grantV g s.r s.n s.t).cells) (V := .bool (grantB g s.r s.n s.t)) (fun w b h => grant_any b g s.r s.n s.t w hR.okg hso.t h) (fun _ => rfl) rfl (fun _ => rfl) rfl (fun _ => rfl) (fun _ => rfl) rfl rfl oneNil ?_
          obtain ⟨e, hR2⟩ := hR.grant s.r s.n s.t ht
          refine br_f (show (!(grantB g s.r s.n s.t == rGrantB m s.r s.n s.t)) = false by rw [e]; simp) ?_
          exact fun ids w hp hf => back _ _ hR2 _ (hwrap _ _ _ _) _ _
        · refine br_f (show (s.k == 1) = false by simpa using k1) ?_
          exact fun ids w hp hf => back _ _ hR _ (hwrap _ _ _ _) _ _
    · refine br_f (show decide ((k : Int) < 100) = false by simp; omega) ?_
      refine node_val ⟨[], [false], [], [], []⟩ (fun w => bars_nil 0 0 0 w) (fun _ => rfl) (fun _ => rfl) rfl rfl rfl oneNil (br_t rfl ?_)
      refine node_val ⟨[], [false], [], [], []⟩ (fun w => grant_nil 1 1 0 w) (fun _ => rfl) (fun _ => rfl) rfl rfl rfl oneNil (pure_done fun _ => rfl)
  · refine br_f (show decide ((k : Int) < (os.length : Int)) = false by simpa using hk) ?_
    refine node_val ⟨[], [false], [], [], []⟩ (fun w => bars_nil 0 0 0 w) (fun _ => rfl) (fun _ => rfl) rfl rfl rfl oneNil (br_t rfl ?_)
    refine node_val ⟨[], [false], [], [], []⟩ (fun w => grant_nil 1 1 0 w) (fun _ => rfl) (fun _ => rfl) rfl rfl rfl oneNil (pure_done fun _ => rfl)
theorem grants_args (len now : Int) (anew : Bool) (a : Option Addr) (cap : Nat) (ds : List Dat) (w : World) (i1 : I64 len) (i2 : I64 now) (hC : Cells w a (Dat.cellsAll ds)) (hds : ∀ d ∈ ds, d.In Try.prog w 33) (hl : ds.length ≤ 9223372036854775807) (hb : ds.length * Try.prog.bytesOf 33 ≤ reachBytes) :
    Calls Try.prog 3 #[.int .i64 len, .int .i64 now, .bool anew, .slice a ds.length cap] w fun e w' => e = .returned (.bool true) ∧ Below w.heap.size w w' := by
  obtain ⟨os, rfl, ho⟩ := list_map_of LOp.dat LOp.ok ds (fun d hd => open_lop (hds d hd))
  rw [List.length_map] at hl ⊢
  exact grants_walk len now anew a cap os w ho hC hl
end Go.Proofs.Ytnpjigeljhlomaa
