/- Part 22 of the texts of a proof about the given program: what the statement's proof needs of them. -/
import Derived.Test.YtadgaefmoobcoaaKMsgEncodes21
namespace Go.Proofs.Ytadgaefmoobcoaa
open Go.ChangeShapes Go.WideShapes Go.ChangeAt Go.RowKit Go.Syn Go.Eng
set_option linter.unusedVariables false
set_option linter.unusedSimpArgs false
section
variable {C : Cfg} {ρ : Env} {pre : List Nat} {rest : HX} {L : Stack} {m m1 m2 : Mem} {args : List SV} {r r2 : SV} {t : Tree} {ty : Nat} {ps : List (Nat × SV)}
theorem node_catR {f : Nat} {so xo : Operand} {ac : Go.Call} {a : Option Addr} {cap : Nat} {bs bs2 : List Int} (AS : List Nat → Array Value) (hargs : ∀ ids, (args.map (SV.den ρ ids)).toArray = AS ids) (hdis : ∀ k, cap ≠ 0 → abk a = some k → ¬ rest.F k)
    (hcall : ∀ ids w, pre <+: ids → Facts C m ρ ids (rest.and (frow a cap bs)) w → Calls C.P f (AS ids) w (NewO w id bs2)) (hP : C.P = Try.prog) (hac : ac = { callee := .builtin .append, args := #[so, xo], argTypes := #[35, 35] })
    (hr : ∀ a2 c2 ids, r.den (ρ.add ⟨[], [], [], [bs2.length, c2], [a2]⟩) ids = .slice a2 bs2.length c2) (hhp : m1.hp = m.hp) (hfit : hpFits m.c m.hp.length m.hp = true) (hc : ∀ a2 c2, (ρ.add ⟨[], [], [], [bs2.length, c2], [a2]⟩).cnt = m1.c)
    (hso : ∀ a2 c2 ids, envOf (ρ.add ⟨[], [], [], [bs2.length, c2], [a2]⟩) ids ps so = .slice a bs.length cap) (hxo : ∀ a2 c2 ids, envOf (ρ.add ⟨[], [], [], [bs2.length, c2], [a2]⟩) ids ps xo = .slice a2 bs2.length c2)
    (hM : ∀ k, cap ≠ 0 → abk a = some k → C.W.heap.size ≤ k ∨ C.M k) (h63 : bs.length + bs2.length ≤ 140737488355328)
    (hr2 : ∀ a2 c2 a' c' ids, r2.den ((ρ.add ⟨[], [], [], [bs2.length, c2], [a2]⟩).add ⟨[], [], [], [bs.length + bs2.length, c'], [a']⟩) ids = .slice a' (bs.length + bs2.length) c') (hhp2 : m2.hp = m1.hp) (hfit2 : hpFits m1.c m1.hp.length m1.hp = true) (hc2 : ∀ a2 c2 a' c', ((ρ.add ⟨[], [], [], [bs2.length, c2], [a2]⟩).add ⟨[], [], [], [bs.length + bs2.length, c'], [a']⟩).cnt = m2.c)
    (h : ∀ a2 c2 a' c', (∀ k, c' ≠ 0 → abk a' = some k → ¬ rest.F k) → (∀ k, c' ≠ 0 → abk a' = some k → (cap ≠ 0 ∧ abk a = some k) ∨ C.W.heap.size ≤ k) → t.holds C ((ρ.add ⟨[], [], [], [bs2.length, c2], [a2]⟩).add ⟨[], [], [], [bs.length + bs2.length, c'], [a']⟩) pre (rest.and (frow a' c' (bs ++ bs2))) L) :
    (Tree.call f args m r m1 (Tree.gen (.call ac) ty ps m1 (some r2) m2 t)).holds C ρ pre (rest.and (frow a cap bs)) L := by
  refine node_newi (V := id) (bs := bs2) AS (fun a2 c2 => ⟨[], [], [], [bs2.length, c2], [a2]⟩) hargs hcall hr hhp hfit hc (fun _ _ => oneNil) ?_
  intro a2 c2 _ hn2
  refine node_appends (sz := 1) (bytes := 1) (e := 5) (z := .int .u8 0) (rest := rest) (xs := bcells bs) hac (hP ▸ Try.underlying35) (hP ▸ info_byte) rfl (by decide) a bs.length cap (fun _ => a2) bs2.length c2 (bcells bs2) (by rw [bcells_len, Nat.mul_one]) (fun ids w hp hf => hf.x.1.2) (fun ids w hp hf => frow_cells hf.x.2) (bcells_one bs2) (fun w h => ⟨h.1.1, fun _ q => .inl (.inl q)⟩) (fun k h1 h2 => .inl (.inr ⟨h1, h2⟩)) hdis hM (by unfold maxLen; omega) (by omega) (hso a2 c2) (fun ids _ => hxo a2 c2 ids) (hr2 a2 c2) hhp2 hfit2 (hc2 a2 c2) ?_
  intro a' c' _ hd hor
  rw [frow_app]
  exact h a2 c2 a' c' hd (fun k h1 h2 => (hor k h1 h2).elim .inl (fun q => .inr q.1))
end
end Go.Proofs.Ytadgaefmoobcoaa

namespace Go.Proofs.Ytadgaefmoobcoaa
open Go.ChangeShapes Go.WideShapes Go.ChangeAt Go.RowKit Go.Syn Go.Eng
set_option linter.unusedVariables false
set_option linter.unusedSimpArgs false
set_option maxRecDepth 100000
set_option maxRecDepth 100000 in
theorem tQText : (runF ⟨tt, fns, { }⟩ (Try.f54.body.getD .skip) Try.f54.results.toList (entry Try.f54.ntmps [.lf (.sl 0 (.var 0) (.var 1))] [] ⟨0, 0, 0, 2, 1⟩)) =
  (.call 50 [(.lf (.int .u64 (.conv .u64 (.nat 0))))] ⟨[], ⟨0, 0, 0, 2, 1⟩⟩ (.lf (tSl 1 2 3)) ⟨[], ⟨0, 0, 0, 4, 2⟩⟩ (.gen (.call ⟨(.builtin .append), #[(.tmp 6), (.tmp 7)], #[35, 35]⟩) 35 [(6, (.lf (tSl 1 2 3))), (7, (.lf (tSl 0 0 1)))] ⟨[], ⟨0, 0, 0, 4, 2⟩⟩ (.some (.lf (tSl 2 4 5))) ⟨[], ⟨0, 0, 0, 6, 3⟩⟩ (.done (.lf (tSl 2 4 5)) ⟨[], ⟨0, 0, 0, 6, 3⟩⟩))) := by kernel_rfl
def mtr (a : Option Addr) (c : Nat) (M : List Int) : HX := HX.rw 1 3 a M.length c (M.map (Value.int .i64))
theorem mtr_app (a : Option Addr) (c : Nat) (M xs : List Int) : HX.rw 1 3 a (M.length + xs.length) c (M.map (Value.int .i64) ++ xs.map (Value.int .i64)) = mtr a c (M ++ xs) := by
  unfold mtr
  rw [List.length_append, List.map_append]
theorem mtr_some {a : Option Addr} {c : Nat} {M : List Int} {w : World} (hX : (mtr a c M).X w) (h : 0 < M.length) : a.isSome = true := by
  obtain ⟨x, hx⟩ : ∃ x, M[0]? = some x := ⟨_, List.getElem?_eq_getElem h⟩
  refine (cl_elt (rw_cells hX) (i := 0) (sz := 1) [.int .i64 x] (fun i u hi => ?_) (by simp)).1
  cases i with
  | zero =>
    simp only [List.getElem?_cons_zero, Option.some.injEq] at hi
    rw [Nat.mul_one, Nat.add_zero, List.getElem?_map, hx, ← hi]; rfl
  | succ n => simp at hi
theorem info_mt : (Try.prog.info? 3).map (fun i => (i.zero, i.size, i.bytes)) = some (some (.int .i64 0), 1, 8) := by kernel_rfl
theorem lit4 (x0 x1 x2 x3 : Int) (w : World) : (Instr.buildSlice 25 4 #[(0, .int .i64 x0), (1, .int .i64 x1), (2, .int .i64 x2), (3, .int .i64 x3)]).run Try.prog w = .ok (.slice (some ⟨w.heap.size, 0, none⟩) 4 4) (w.alloc (.cells (([x0, x1, x2, x3] : List Int).map (Value.int .i64)).toArray 3)) := by kernel_rfl
theorem lit2 (x0 x1 : Int) (w : World) : (Instr.buildSlice 25 2 #[(0, .int .i64 x0), (1, .int .i64 x1)]).run Try.prog w = .ok (.slice (some ⟨w.heap.size, 0, none⟩) 2 2) (w.alloc (.cells (([x0, x1] : List Int).map (Value.int .i64)).toArray 3)) := by kernel_rfl
theorem lit1 (x0 : Int) (w : World) : (Instr.buildSlice 25 1 #[(0, .int .i64 x0)]).run Try.prog w = .ok (.slice (some ⟨w.heap.size, 0, none⟩) 1 1) (w.alloc (.cells (([x0] : List Int).map (Value.int .i64)).toArray 3)) := by kernel_rfl
theorem lit0 (w : World) : (Instr.buildSlice 35 0 #[]).run Try.prog w = .ok (.slice (some ⟨w.heap.size, 0, none⟩) 0 0) (w.alloc (.cells ([] : List Value).toArray 5)) := by kernel_rfl
def Apm (W : World) (B : HX) (a : Option Addr) (c : Nat) : Prop := ∀ k, c ≠ 0 → abk a = some k → W.heap.size ≤ k ∧ ¬ B.F k
theorem Apm.cat {W : World} {B : HX} {a a' : Option Addr} {c c' : Nat} (h : Apm W B a c) (hd : ∀ k, c' ≠ 0 → abk a' = some k → ¬ B.F k) (hor : ∀ k, c' ≠ 0 → abk a' = some k → (c ≠ 0 ∧ abk a = some k) ∨ W.heap.size ≤ k) : Apm W B a' c' :=
  fun k h1 h2 => ⟨(hor k h1 h2).elim (fun q => (h k q.1 q.2).1) id, hd k h1 h2⟩
theorem natU_len (n : Nat) (h : n < 2 ^ 63) : natU (n : Int) = n := by rw [natU_of (by omega) (by omega)]; omega
theorem qtext_any (a : Option Addr) (c : Nat) (d : List Int) (w : World) (H : Cells w a (bcells d)) (hl : d.length ≤ 1000000) : Calls Try.prog 54 #[.slice a d.length c] w (NewO w id (numB d.length ++ d)) := by
  refine calls_at (tab_ok _) Try.func54 rfl tQText (ρ := ⟨[], [], [], [d.length, c], [a]⟩) (ids := []) (hx := HX.nil) rfl (Facts.initP rfl oneNil) ?_
  have hn := natU_len d.length (by omega)
  refine node_newi (V := id) (bs := numB d.length) (fun _ => #[.int .u64 (natU (d.length : Int) : Int)]) (fun a' c' => ⟨[], [], [], [(numB d.length).length, c'], [a']⟩) (fun ids => by rw [← natU_c]; kernel_rfl) (fun ids w2 hp hf => by rw [hn]; exact qn_any (by omega) w2) (by intros; kernel_rfl) (by kernel_rfl) (by kernel_rfl) (by intros; kernel_rfl) (fun _ _ => oneNil) ?_
  intro a1 c1 _ hf1
  have g1 := numB_len (u := d.length) (by omega)
  refine node_appends (z := .int .u8 0) (sz := 1) (bytes := 1) (rest := HX.nil) rfl Try.underlying35 info_byte rfl (by decide) a1 (numB d.length).length c1 (bcells (numB d.length)) (fun _ => a) d.length c (bcells d) (by rw [bcells_len, Nat.mul_one]) (fun ids w2 hp hf => hf.x.2) (fun ids w2 hp hf => cl_stay H (fun k hk => hf.chg.block k hk (fun q => q))) (bcells_one _) (fun w2 hX => ⟨hX.1, fun q hq => hq.elim⟩) (fun q h1 h2 => .inr ⟨h1, h2⟩) (fun q h1 h2 hF => hF) (fun q h1 h2 => .inl (hf1 q h1 h2).1) (by simp only [maxLen]; omega) (by omega) (by intros; kernel_rfl) (by intros; kernel_rfl) (by intros; kernel_rfl) (by kernel_rfl) (by kernel_rfl) (by intros; kernel_rfl) ?_
  intro a2 c2 _ _ hor
  rw [frow_app]
  intro ids w2 hp hf
  exact ⟨a2, c2, Eq.trans (b := .returned (.slice a2 ((numB d.length).length + d.length) c2)) (by kernel_rfl) (by rw [List.length_append]; rfl), hf.x.2, fun k h1 h2 => (hor k h1 h2).elim (fun q => (hf1 k q.1 q.2).1) (fun q => q.1), hf.chg.below⟩
def bN (u b : Int) (xs : List Int) : List Int := if ub u b = true then xs else []
theorem natsB_bN (u b : Int) (xs : List Int) : natsB (bN u b xs) = bitB u b (natsB xs) := by unfold bN bitB; split <;> rfl
theorem natsB_app (xs ys : List Int) : natsB (xs ++ ys) = natsB xs ++ natsB ys := by unfold natsB; rw [List.flatMap_append]
theorem bN_len (u b : Int) (xs : List Int) : (bN u b xs).length ≤ xs.length := by unfold bN; split <;> simp
def MtI (W : World) (R : HX) (A : List Int) (vs : Vals) (hx : HX) : Prop := ∃ (a : Option Addr) (c : Nat), vs = ⟨[], [], [], [A.length, c], [a]⟩ ∧ hx = R.and (mtr a c A) ∧ Apm W R a c
def MbI (W : World) (R : HX) (b : List Int) (vs : Vals) (hx : HX) : Prop := ∃ (a : Option Addr) (c : Nat), vs = ⟨[], [], [], [b.length, c], [a]⟩ ∧ hx = R.and (frow a c b) ∧ Apm W R a c
def MnI (W : World) (R : HX) (S : Prop) (NS : List Int) (vs : Vals) (hx : HX) : Prop := ∃ (k : Nat) (a : Option Addr) (c : Nat), k ≤ NS.length ∧ S ∧ Apm W R a c ∧ vs = ⟨[(k : Int)], [], [], [(natsB (NS.take k)).length, c], [a]⟩ ∧ hx = R.and (frow a c (natsB (NS.take k)))
def MvI (W : World) (R : HX) (b : List Int) (xs : List (Vo Pv)) (vs : Vals) (hx : HX) : Prop := ∃ (k : Nat) (a : Option Addr) (c : Nat), k ≤ xs.length ∧ Apm W R a c ∧ vs = ⟨[(k : Int)], [], [], [(b ++ (xs.take k).flatMap voB).length, c], [a]⟩ ∧ hx = R.and (frow a c (b ++ (xs.take k).flatMap voB))
set_option maxHeartbeats 16000000 in
theorem rbytes7_any (m : Ms) (hw : MsWf m) (h0 : chkM m = 0) (w : World) (H : m.X.X w) : Calls Try.prog 19 #[m.val] w (NewO w id (mB m)) := by
  have G := chk_good h0
  obtain ⟨u, eu⟩ : ∃ x, x = useI m.k := ⟨_, rfl⟩
  obtain ⟨s, es⟩ : ∃ x, x = usesS m.k := ⟨_, rfl⟩
  have hsl : s.data.toList.length ≤ 1000 := by rw [es]; exact uses_len m.k
  obtain ⟨B, eB⟩ : ∃ x, x = m.X := ⟨_, rfl⟩
  have BX : ∀ {w}, B.X w → m.X.X w := fun h => by rw [← eB]; exact h
  refine calls_at (tab_ok _) Try.func19 rfl tBytes7 (ρ := ⟨m.ints, [], [], m.nats, m.adrs⟩) (ids := []) (hx := B) rfl (Facts.initq rfl oneNil (by rw [eB]; exact H) (by rw [eB]; exact Ms.X_sep H)) ?_
  refine node_P ⟨[], [], [.string s], [], []⟩ #[.int .i64 m.k] (.string s) (by intros; kernel_rfl) (by intros; kernel_rfl) (by kernel_rfl) (by kernel_rfl) (by kernel_rfl) (fun v hv => by simp only [List.mem_singleton] at hv; subst hv; rfl) (fun ids w2 hp hf => by rw [es]; exact ruses_any m.k w2) ?_
  refine holds_env (ρ' := ⟨[m.k, m.f, m.t, m.e, m.r, m.n, m.slot, m.low, m.tm, m.p.v.k, m.c.sess, m.c.seq, m.c.ack, m.c.op.kind, m.c.op.reg, m.c.op.tg, m.c.op.re, m.c.op.im, m.rk, m.re, m.im], [], [.string s], [m.p.v.cs.length, m.p.c1, m.p.v.ns.length, m.p.c2, m.vs.length, m.cv, m.d.length, m.cd], [m.p.a1, m.p.a2, m.av, m.ad]⟩) (by kernel_rfl) ?_
  obtain ⟨A0, eA0⟩ : ∃ A, A = [m.k, m.f, m.t, m.e] := ⟨_, rfl⟩
  have lA0 : A0.length = 4 := by rw [eA0]; rfl
  refine node_lit (t := 25) (e := 3) (len := 4) (sz := 1) (([m.k, m.f, m.t, m.e] : List Int).map (Value.int .i64)) #[(0, .int .i64 m.k), (1, .int .i64 m.f), (2, .int .i64 m.t), (3, .int .i64 m.e)] (by intros; kernel_rfl) (fun w => lit4 _ _ _ _ w) rfl (by unfold maxLen; decide) (by intros; kernel_rfl) (by kernel_rfl) (by kernel_rfl) (by intros; kernel_rfl) ?_
  intro a0 ha0
  have ap0 : Apm w B a0 4 := fun k h1 h2 => ha0 k h1 h2
  refine holds_eq (show _ = B.and (mtr a0 4 A0) from by rw [eA0]; rfl) ?_
  refine holds_env (ρ' := ⟨[m.k, m.f, m.t, m.e, m.r, m.n, m.slot, m.low, m.tm, m.p.v.k, m.c.sess, m.c.seq, m.c.ack, m.c.op.kind, m.c.op.reg, m.c.op.tg, m.c.op.re, m.c.op.im, m.rk, m.re, m.im], [], [.string s], [m.p.v.cs.length, m.p.c1, m.p.v.ns.length, m.p.c2, m.vs.length, m.cv, m.d.length, m.cd, A0.length, 4], [m.p.a1, m.p.a2, m.av, m.ad, a0]⟩) (by rw [lA0]; kernel_rfl) ?_
  obtain ⟨A1, eA1⟩ : ∃ A, A = A0 ++ bN u 1 [m.r, m.n] := ⟨_, rfl⟩
  have lA1 : A1.length ≤ 6 := by have := bN_len u 1 [m.r, m.n]; rw [eA1, List.length_append]; have h2 : ([m.r, m.n] : List Int).length = 2 := rfl; omega
  refine ⟨MtI w B A1, ?_, ?_⟩
  · refine node_P ⟨[], [ub u 1], [], [], []⟩ #[.string s, .int .u8 98] (.bool (ub u 1)) (by intros; kernel_rfl) (by intros; kernel_rfl) (by kernel_rfl) (by kernel_rfl) (by kernel_rfl) oneNil (fun ids w2 hp hf => by have := has_any s 98 hsl w2; rw [show hasB s 98 = ub u 1 by rw [es, eu]; exact has_b m.k] at this; exact this) ?_
    by_cases h : ub u 1 = true
    · refine br_T (ub u 1) (by kernel_rfl) h ?_
      have e2 : A1 = A0 ++ [m.r, m.n] := by rw [eA1]; unfold bN; rw [if_pos h]
      refine node_lit (t := 25) (e := 3) (len := 2) (sz := 1) (([m.r, m.n] : List Int).map (Value.int .i64)) #[(0, .int .i64 m.r), (1, .int .i64 m.n)] (by intros; kernel_rfl) (fun w => lit2 _ _ w) rfl (by unfold maxLen; decide) (by intros; kernel_rfl) (by kernel_rfl) (by kernel_rfl) (by intros; kernel_rfl) ?_
      intro a9 ha9
      refine node_appends (z := .int .i64 0) (sz := 1) (bytes := 8) (rest := B) rfl Try.underlying25 info_mt rfl (by decide) a0 A0.length 4 (A0.map (Value.int .i64)) (fun _ => a9) 2 2 (([m.r, m.n] : List Int).map (Value.int .i64)) rfl (fun ids w2 hp hf => hf.x.1.2) (fun ids w2 hp hf => rw_cells hf.x.2) (fun v hv => by obtain ⟨x, _, rfl⟩ := List.mem_map.1 hv; rfl) (fun w2 hX => ⟨hX.1.1, fun k hk => .inl (.inl hk)⟩) (fun k h1 h2 => .inl (.inr ⟨h1, h2⟩)) (fun k h1 h2 hF => (ap0 k h1 h2).2 hF) (fun k h1 h2 => .inl (ap0 k h1 h2).1) (by simp only [maxLen]; omega) (by omega) (by intros; kernel_rfl) (by intros; kernel_rfl) (by intros; kernel_rfl) (by kernel_rfl) (by kernel_rfl) (by intros; kernel_rfl) ?_
      intro a8 c8 _ hd8 ho8
      refine holds_eq (show _ = B.and (mtr a8 c8 (A0 ++ [m.r, m.n])) from by rw [← mtr_app]; rfl) ?_
      exact again_V ⟨[], [], [], [(A0 ++ [m.r, m.n]).length, c8], [a8]⟩ rfl (fun ids => Eq.trans (b := ⟨[], [], [], [A0.length + 2, c8], [a8]⟩) (by kernel_rfl) (by rw [List.length_append]; rfl)) _ (fun w2 ids hf => ⟨hf.x, hf.sep⟩) ⟨a8, c8, by rw [e2], by rw [e2], ap0.cat hd8 (fun k h1 h2 => (ho8 k h1 h2).elim .inl (fun q => .inr q.1))⟩
    · refine br_F (ub u 1) (by kernel_rfl) (by simpa using h) ?_
      have e2 : A1 = A0 := by rw [eA1]; unfold bN; rw [if_neg h, List.append_nil]
      exact again_V ⟨[], [], [], [A0.length, 4], [a0]⟩ rfl (by intros; kernel_rfl) _ (fun w2 ids hf => ⟨hf.x, hf.sep⟩) ⟨a0, 4, by rw [e2], by rw [e2], ap0⟩
  rintro vs hx' hcnt1 ⟨a1, c1, rfl, rfl, ap1⟩
  refine holds_env (ρ' := ⟨[m.k, m.f, m.t, m.e, m.r, m.n, m.slot, m.low, m.tm, m.p.v.k, m.c.sess, m.c.seq, m.c.ack, m.c.op.kind, m.c.op.reg, m.c.op.tg, m.c.op.re, m.c.op.im, m.rk, m.re, m.im], [], [.string s], [m.p.v.cs.length, m.p.c1, m.p.v.ns.length, m.p.c2, m.vs.length, m.cv, m.d.length, m.cd, A0.length, 4, A1.length, c1], [m.p.a1, m.p.a2, m.av, m.ad, a0, a1]⟩) (by kernel_rfl) ?_
  obtain ⟨A2, eA2⟩ : ∃ A, A = A1 ++ bN u 2 [m.slot] := ⟨_, rfl⟩
  have lA2 : A2.length ≤ 7 := by have := bN_len u 2 [m.slot]; rw [eA2, List.length_append]; have h2 : ([m.slot] : List Int).length = 1 := rfl; omega
  refine ⟨MtI w B A2, ?_, ?_⟩
  · refine node_P ⟨[], [ub u 2], [], [], []⟩ #[.string s, .int .u8 115] (.bool (ub u 2)) (by intros; kernel_rfl) (by intros; kernel_rfl) (by kernel_rfl) (by kernel_rfl) (by kernel_rfl) oneNil (fun ids w2 hp hf => by have := has_any s 115 hsl w2; rw [show hasB s 115 = ub u 2 by rw [es, eu]; exact has_s m.k] at this; exact this) ?_
    by_cases h : ub u 2 = true
    · refine br_T (ub u 2) (by kernel_rfl) h ?_
      have e2 : A2 = A1 ++ [m.slot] := by rw [eA2]; unfold bN; rw [if_pos h]
      refine node_lit (t := 25) (e := 3) (len := 1) (sz := 1) (([m.slot] : List Int).map (Value.int .i64)) #[(0, .int .i64 m.slot)] (by intros; kernel_rfl) (fun w => lit1 _ w) rfl (by unfold maxLen; decide) (by intros; kernel_rfl) (by kernel_rfl) (by kernel_rfl) (by intros; kernel_rfl) ?_
      intro a9 ha9
      refine node_appends (z := .int .i64 0) (sz := 1) (bytes := 8) (rest := B) rfl Try.underlying25 info_mt rfl (by decide) a1 A1.length c1 (A1.map (Value.int .i64)) (fun _ => a9) 1 1 (([m.slot] : List Int).map (Value.int .i64)) rfl (fun ids w2 hp hf => hf.x.1.2) (fun ids w2 hp hf => rw_cells hf.x.2) (fun v hv => by obtain ⟨x, _, rfl⟩ := List.mem_map.1 hv; rfl) (fun w2 hX => ⟨hX.1.1, fun k hk => .inl (.inl hk)⟩) (fun k h1 h2 => .inl (.inr ⟨h1, h2⟩)) (fun k h1 h2 hF => (ap1 k h1 h2).2 hF) (fun k h1 h2 => .inl (ap1 k h1 h2).1) (by simp only [maxLen]; omega) (by omega) (by intros; kernel_rfl) (by intros; kernel_rfl) (by intros; kernel_rfl) (by kernel_rfl) (by kernel_rfl) (by intros; kernel_rfl) ?_
      intro a8 c8 _ hd8 ho8
      refine holds_eq (show _ = B.and (mtr a8 c8 (A1 ++ [m.slot])) from by rw [← mtr_app]; rfl) ?_
      exact again_V ⟨[], [], [], [(A1 ++ [m.slot]).length, c8], [a8]⟩ rfl (fun ids => Eq.trans (b := ⟨[], [], [], [A1.length + 1, c8], [a8]⟩) (by kernel_rfl) (by rw [List.length_append]; rfl)) _ (fun w2 ids hf => ⟨hf.x, hf.sep⟩) ⟨a8, c8, by rw [e2], by rw [e2], ap1.cat hd8 (fun k h1 h2 => (ho8 k h1 h2).elim .inl (fun q => .inr q.1))⟩
    · refine br_F (ub u 2) (by kernel_rfl) (by simpa using h) ?_
      have e2 : A2 = A1 := by rw [eA2]; unfold bN; rw [if_neg h, List.append_nil]
      exact again_V ⟨[], [], [], [A1.length, c1], [a1]⟩ rfl (by intros; kernel_rfl) _ (fun w2 ids hf => ⟨hf.x, hf.sep⟩) ⟨a1, c1, by rw [e2], by rw [e2], ap1⟩
  rintro vs hx' hcnt2 ⟨a2, c2, rfl, rfl, ap2⟩
  refine holds_env (ρ' := ⟨[m.k, m.f, m.t, m.e, m.r, m.n, m.slot, m.low, m.tm, m.p.v.k, m.c.sess, m.c.seq, m.c.ack, m.c.op.kind, m.c.op.reg, m.c.op.tg, m.c.op.re, m.c.op.im, m.rk, m.re, m.im], [], [.string s], [m.p.v.cs.length, m.p.c1, m.p.v.ns.length, m.p.c2, m.vs.length, m.cv, m.d.length, m.cd, A0.length, 4, A1.length, c1, A2.length, c2], [m.p.a1, m.p.a2, m.av, m.ad, a0, a1, a2]⟩) (by kernel_rfl) ?_
  obtain ⟨A3, eA3⟩ : ∃ A, A = A2 ++ bN u 4 [m.low] := ⟨_, rfl⟩
  have lA3 : A3.length ≤ 8 := by have := bN_len u 4 [m.low]; rw [eA3, List.length_append]; have h2 : ([m.low] : List Int).length = 1 := rfl; omega
  refine ⟨MtI w B A3, ?_, ?_⟩
  · refine node_P ⟨[], [ub u 4], [], [], []⟩ #[.string s, .int .u8 108] (.bool (ub u 4)) (by intros; kernel_rfl) (by intros; kernel_rfl) (by kernel_rfl) (by kernel_rfl) (by kernel_rfl) oneNil (fun ids w2 hp hf => by have := has_any s 108 hsl w2; rw [show hasB s 108 = ub u 4 by rw [es, eu]; exact has_l m.k] at this; exact this) ?_
    by_cases h : ub u 4 = true
    · refine br_T (ub u 4) (by kernel_rfl) h ?_
      have e2 : A3 = A2 ++ [m.low] := by rw [eA3]; unfold bN; rw [if_pos h]
      refine node_lit (t := 25) (e := 3) (len := 1) (sz := 1) (([m.low] : List Int).map (Value.int .i64)) #[(0, .int .i64 m.low)] (by intros; kernel_rfl) (fun w => lit1 _ w) rfl (by unfold maxLen; decide) (by intros; kernel_rfl) (by kernel_rfl) (by kernel_rfl) (by intros; kernel_rfl) ?_
      intro a9 ha9
      refine node_appends (z := .int .i64 0) (sz := 1) (bytes := 8) (rest := B) rfl Try.underlying25 info_mt rfl (by decide) a2 A2.length c2 (A2.map (Value.int .i64)) (fun _ => a9) 1 1 (([m.low] : List Int).map (Value.int .i64)) rfl (fun ids w2 hp hf => hf.x.1.2) (fun ids w2 hp hf => rw_cells hf.x.2) (fun v hv => by obtain ⟨x, _, rfl⟩ := List.mem_map.1 hv; rfl) (fun w2 hX => ⟨hX.1.1, fun k hk => .inl (.inl hk)⟩) (fun k h1 h2 => .inl (.inr ⟨h1, h2⟩)) (fun k h1 h2 hF => (ap2 k h1 h2).2 hF) (fun k h1 h2 => .inl (ap2 k h1 h2).1) (by simp only [maxLen]; omega) (by omega) (by intros; kernel_rfl) (by intros; kernel_rfl) (by intros; kernel_rfl) (by kernel_rfl) (by kernel_rfl) (by intros; kernel_rfl) ?_
      intro a8 c8 _ hd8 ho8
      refine holds_eq (show _ = B.and (mtr a8 c8 (A2 ++ [m.low])) from by rw [← mtr_app]; rfl) ?_
      exact again_V ⟨[], [], [], [(A2 ++ [m.low]).length, c8], [a8]⟩ rfl (fun ids => Eq.trans (b := ⟨[], [], [], [A2.length + 1, c8], [a8]⟩) (by kernel_rfl) (by rw [List.length_append]; rfl)) _ (fun w2 ids hf => ⟨hf.x, hf.sep⟩) ⟨a8, c8, by rw [e2], by rw [e2], ap2.cat hd8 (fun k h1 h2 => (ho8 k h1 h2).elim .inl (fun q => .inr q.1))⟩
    · refine br_F (ub u 4) (by kernel_rfl) (by simpa using h) ?_
      have e2 : A3 = A2 := by rw [eA3]; unfold bN; rw [if_neg h, List.append_nil]
      exact again_V ⟨[], [], [], [A2.length, c2], [a2]⟩ rfl (by intros; kernel_rfl) _ (fun w2 ids hf => ⟨hf.x, hf.sep⟩) ⟨a2, c2, by rw [e2], by rw [e2], ap2⟩
  rintro vs hx' hcnt3 ⟨a3, c3, rfl, rfl, ap3⟩
  refine holds_env (ρ' := ⟨[m.k, m.f, m.t, m.e, m.r, m.n, m.slot, m.low, m.tm, m.p.v.k, m.c.sess, m.c.seq, m.c.ack, m.c.op.kind, m.c.op.reg, m.c.op.tg, m.c.op.re, m.c.op.im, m.rk, m.re, m.im], [], [.string s], [m.p.v.cs.length, m.p.c1, m.p.v.ns.length, m.p.c2, m.vs.length, m.cv, m.d.length, m.cd, A0.length, 4, A1.length, c1, A2.length, c2, A3.length, c3], [m.p.a1, m.p.a2, m.av, m.ad, a0, a1, a2, a3]⟩) (by kernel_rfl) ?_
  obtain ⟨A4, eA4⟩ : ∃ A, A = A3 ++ bN u 8 [m.tm] := ⟨_, rfl⟩
  have lA4 : A4.length ≤ 9 := by have := bN_len u 8 [m.tm]; rw [eA4, List.length_append]; have h2 : ([m.tm] : List Int).length = 1 := rfl; omega
  refine ⟨MtI w B A4, ?_, ?_⟩
  · refine node_P ⟨[], [ub u 8], [], [], []⟩ #[.string s, .int .u8 116] (.bool (ub u 8)) (by intros; kernel_rfl) (by intros; kernel_rfl) (by kernel_rfl) (by kernel_rfl) (by kernel_rfl) oneNil (fun ids w2 hp hf => by have := has_any s 116 hsl w2; rw [show hasB s 116 = ub u 8 by rw [es, eu]; exact has_t m.k] at this; exact this) ?_
    by_cases h : ub u 8 = true
    · refine br_T (ub u 8) (by kernel_rfl) h ?_
      have e2 : A4 = A3 ++ [m.tm] := by rw [eA4]; unfold bN; rw [if_pos h]
      refine node_lit (t := 25) (e := 3) (len := 1) (sz := 1) (([m.tm] : List Int).map (Value.int .i64)) #[(0, .int .i64 m.tm)] (by intros; kernel_rfl) (fun w => lit1 _ w) rfl (by unfold maxLen; decide) (by intros; kernel_rfl) (by kernel_rfl) (by kernel_rfl) (by intros; kernel_rfl) ?_
      intro a9 ha9
      refine node_appends (z := .int .i64 0) (sz := 1) (bytes := 8) (rest := B) rfl Try.underlying25 info_mt rfl (by decide) a3 A3.length c3 (A3.map (Value.int .i64)) (fun _ => a9) 1 1 (([m.tm] : List Int).map (Value.int .i64)) rfl (fun ids w2 hp hf => hf.x.1.2) (fun ids w2 hp hf => rw_cells hf.x.2) (fun v hv => by obtain ⟨x, _, rfl⟩ := List.mem_map.1 hv; rfl) (fun w2 hX => ⟨hX.1.1, fun k hk => .inl (.inl hk)⟩) (fun k h1 h2 => .inl (.inr ⟨h1, h2⟩)) (fun k h1 h2 hF => (ap3 k h1 h2).2 hF) (fun k h1 h2 => .inl (ap3 k h1 h2).1) (by simp only [maxLen]; omega) (by omega) (by intros; kernel_rfl) (by intros; kernel_rfl) (by intros; kernel_rfl) (by kernel_rfl) (by kernel_rfl) (by intros; kernel_rfl) ?_
      intro a8 c8 _ hd8 ho8
      refine holds_eq (show _ = B.and (mtr a8 c8 (A3 ++ [m.tm])) from by rw [← mtr_app]; rfl) ?_
      exact again_V ⟨[], [], [], [(A3 ++ [m.tm]).length, c8], [a8]⟩ rfl (fun ids => Eq.trans (b := ⟨[], [], [], [A3.length + 1, c8], [a8]⟩) (by kernel_rfl) (by rw [List.length_append]; rfl)) _ (fun w2 ids hf => ⟨hf.x, hf.sep⟩) ⟨a8, c8, by rw [e2], by rw [e2], ap3.cat hd8 (fun k h1 h2 => (ho8 k h1 h2).elim .inl (fun q => .inr q.1))⟩
    · refine br_F (ub u 8) (by kernel_rfl) (by simpa using h) ?_
      have e2 : A4 = A3 := by rw [eA4]; unfold bN; rw [if_neg h, List.append_nil]
      exact again_V ⟨[], [], [], [A3.length, c3], [a3]⟩ rfl (by intros; kernel_rfl) _ (fun w2 ids hf => ⟨hf.x, hf.sep⟩) ⟨a3, c3, by rw [e2], by rw [e2], ap3⟩
  rintro vs hx' hcnt4 ⟨a4, c4, rfl, rfl, ap4⟩
  refine holds_env (ρ' := ⟨[m.k, m.f, m.t, m.e, m.r, m.n, m.slot, m.low, m.tm, m.p.v.k, m.c.sess, m.c.seq, m.c.ack, m.c.op.kind, m.c.op.reg, m.c.op.tg, m.c.op.re, m.c.op.im, m.rk, m.re, m.im], [], [.string s], [m.p.v.cs.length, m.p.c1, m.p.v.ns.length, m.p.c2, m.vs.length, m.cv, m.d.length, m.cd, A0.length, 4, A1.length, c1, A2.length, c2, A3.length, c3, A4.length, c4], [m.p.a1, m.p.a2, m.av, m.ad, a0, a1, a2, a3, a4]⟩) (by kernel_rfl) ?_
  refine node_lit (t := 35) (e := 5) (len := 0) (sz := 1) [] #[] (by intros; kernel_rfl) (fun w => lit0 w) rfl (by unfold maxLen; decide) (by intros; kernel_rfl) (by kernel_rfl) (by kernel_rfl) (by intros; kernel_rfl) ?_
  intro y0 _
  obtain ⟨R, eR⟩ : ∃ R, R = B.and (mtr a4 c4 A4) := ⟨_, rfl⟩
  have RB : ∀ {w2}, R.X w2 → B.X w2 := fun h => by rw [eR] at h; exact h.1
  have RN : ∀ {w2}, R.X w2 → (mtr a4 c4 A4).X w2 := fun h => by rw [eR] at h; exact h.2
  refine holds_eq (show _ = R.and (frow y0 0 []) from by rw [eR]; rfl) ?_
  refine holds_env (ρ' := ⟨[m.k, m.f, m.t, m.e, m.r, m.n, m.slot, m.low, m.tm, m.p.v.k, m.c.sess, m.c.seq, m.c.ack, m.c.op.kind, m.c.op.reg, m.c.op.tg, m.c.op.re, m.c.op.im, m.rk, m.re, m.im], [], [.string s], [m.p.v.cs.length, m.p.c1, m.p.v.ns.length, m.p.c2, m.vs.length, m.cv, m.d.length, m.cd, A0.length, 4, A1.length, c1, A2.length, c2, A3.length, c3, A4.length, c4, 0, 0], [m.p.a1, m.p.a2, m.av, m.ad, a0, a1, a2, a3, a4, y0]⟩) (by kernel_rfl) ?_
  have hA64 : ∀ x ∈ A4, True := fun _ _ => trivial
  refine loop_i (MnI w R (0 < A4.length → a4.isSome = true) A4) (fun vs => A4.length - (vs.i.headD 0).toNat) (fun ids w2 hp hf => ⟨_, ⟨hf.x, hf.sep⟩, 0, y0, 0, Nat.zero_le _, (fun q => mtr_some (RN hf.x.1) q), (fun k h1 h2 => absurd rfl h1), by rw [List.take_zero]; kernel_rfl, by rw [List.take_zero]; rfl⟩) ?_
  rintro vs hx' hcnt5 ⟨k, ya, yc, hk, hS, hya, rfl, rfl⟩
  obtain ⟨b, eb⟩ : ∃ b, b = natsB (A4.take k) := ⟨_, rfl⟩
  rw [← eb] at hcnt5 ⊢
  have lb : b.length ≤ 81 := by
    have := natsB_len (A4.take k)
    rw [List.length_take] at this
    rw [eb]; omega
  refine holds_env (ρ' := ⟨[m.k, m.f, m.t, m.e, m.r, m.n, m.slot, m.low, m.tm, m.p.v.k, m.c.sess, m.c.seq, m.c.ack, m.c.op.kind, m.c.op.reg, m.c.op.tg, m.c.op.re, m.c.op.im, m.rk, m.re, m.im, (k : Int)], [], [.string s], [m.p.v.cs.length, m.p.c1, m.p.v.ns.length, m.p.c2, m.vs.length, m.cv, m.d.length, m.cd, A0.length, 4, A1.length, c1, A2.length, c2, A3.length, c3, A4.length, c4, 0, 0, b.length, yc], [m.p.a1, m.p.a2, m.av, m.ad, a0, a1, a2, a3, a4, y0, ya]⟩) (by kernel_rfl) ?_
  by_cases hlt : k < A4.length
  · refine br_T (decide ((k : Int) < (A4.length : Int))) (by kernel_rfl) (decide_eq_true (by omega)) ?_
    obtain ⟨x, hx⟩ : ∃ x, A4[k]? = some x := ⟨_, List.getElem?_eq_getElem hlt⟩
    have hget : ∀ i v, [Value.int .i64 x][i]? = some v → (A4.map (Value.int .i64))[k * 1 + i]? = some v := fun i v hi => by
      cases i with
      | zero =>
        simp only [List.getElem?_cons_zero, Option.some.injEq] at hi
        rw [Nat.mul_one, Nat.add_zero, List.getElem?_map, hx, ← hi]; rfl
      | succ n => simp at hi
    have gx := numB_len (natU_lt x)
    have hbn : b ++ numB (natU x) = natsB (A4.take (k + 1)) := by
      rw [List.take_add_one, hx, natsB_app, ← eb]
      congr 1
      unfold natsB; simp
    refine need_k (a4.isSome = true ∧ (0 : Int) ≤ k ∧ (k : Int) < A4.length) (by kernel_rfl) ⟨hS (by omega), by omega, by omega⟩ ?_
    refine node_ldk ⟨[x], [], [], [], []⟩ (fun _ => .pointer (some (((a4.getD ⟨0, 0, none⟩).add (k * 1)).add 0))) [.int .i64 x] (by intros; kernel_rfl) (by intros; kernel_rfl) (fun ids w2 hp hf => (cl_elt (rw_cells (RN hf.x.1)) [.int .i64 x] hget (by simp)).2 _ id) (by kernel_rfl) oneNil ?_
    refine node_catR (rest := R) (a := ya) (cap := yc) (bs := b) (bs2 := numB (natU x)) (fun _ => #[.int .u64 (natU x : Int)]) (fun ids => by rw [← natU_c]; kernel_rfl) (fun k h1 h2 => (hya k h1 h2).2) (fun ids w2 hp hf => qn_any (natU_lt _) w2) rfl rfl (by intros; kernel_rfl) (by kernel_rfl) (by kernel_rfl) (by intros; kernel_rfl) (by intros; kernel_rfl) (by intros; kernel_rfl) (fun k h1 h2 => .inl (hya k h1 h2).1) (by omega) (by intros; kernel_rfl) (by kernel_rfl) (by kernel_rfl) (by intros; kernel_rfl) ?_
    intro ne ze re se hde hoe
    have ape := hya.cat hde hoe
    have hwk : IntKind.i64.wrap ((k : Int) + 1) = ((k + 1 : Nat) : Int) := by rw [wrap_i64 (by omega)]; omega
    refine again_V ⟨[((k + 1 : Nat) : Int)], [], [], [(b ++ numB (natU x)).length, se], [re]⟩ rfl (fun ids => Eq.trans (b := ⟨[IntKind.i64.wrap ((k : Int) + 1)], [], [], [b.length + (numB (natU x)).length, se], [re]⟩) (by kernel_rfl) (by rw [hwk, List.length_append])) _ (fun w2 ids hf => ⟨hf.x, hf.sep⟩) ⟨⟨k + 1, re, se, hlt, hS, ape, by rw [← hbn], by rw [← hbn]⟩, ?_⟩
    show A4.length - (((k + 1 : Nat) : Int)).toNat < A4.length - ((k : Int)).toNat
    omega
  refine br_F (decide ((k : Int) < (A4.length : Int))) (by kernel_rfl) (decide_eq_false (by omega)) ?_
  have hb0 : b = natsB A4 := by rw [eb, List.take_of_length_le (by omega)]
  have vlat : ∀ {w2 : World}, B.X w2 → VlAt w2 m.p.v m.p.a1 m.p.a2 := fun h => (hw.fit.v).at_ (BX h).1.1
  obtain ⟨b1, eb1⟩ : ∃ x, x = b ++ bitB u 16 (vlB m.p.v) := ⟨_, rfl⟩
  have lb1 : b1.length ≤ b.length + 666 := by
    have h1 := bitB_len u 16 (vlB m.p.v)
    have h2 := vlB_small hw.v G.ve
    rw [eb1, List.length_append]; omega
  refine ⟨MbI w R b1, ?_, ?_⟩
  · refine node_P ⟨[], [ub u 16], [], [], []⟩ #[.string s, .int .u8 118] (.bool (ub u 16)) (by intros; kernel_rfl) (by intros; kernel_rfl) (by kernel_rfl) (by kernel_rfl) (by kernel_rfl) oneNil (fun ids w2 hp hf => by have := has_any s 118 hsl w2; rw [show hasB s 118 = ub u 16 by rw [es, eu]; exact has_v m.k] at this; exact this) ?_
    by_cases h : ub u 16 = true
    · refine br_T (ub u 16) (by kernel_rfl) h ?_
      have e2 : b1 = b ++ (vlB m.p.v) := by rw [eb1]; unfold bitB; rw [if_pos h]
      have h2 := vlB_small hw.v G.ve
      refine node_catR (rest := R) (a := ya) (cap := yc) (bs := b) (bs2 := vlB m.p.v) (fun _ => #[vlV m.p.v m.p.a1 m.p.c1 m.p.a2 m.p.c2]) (by intros; kernel_rfl) (fun k h1 h2 => (hya k h1 h2).2) (fun ids w2 hp hf => rbytes_any m.p.v m.p.a1 m.p.c1 m.p.a2 m.p.c2 hw.v G.ve w2 (vlat (RB hf.x.1))) rfl rfl (by intros; kernel_rfl) (by kernel_rfl) (by kernel_rfl) (by intros; kernel_rfl) (by intros; kernel_rfl) (by intros; kernel_rfl) (fun k h1 h2 => .inl (hya k h1 h2).1) (by omega) (by intros; kernel_rfl) (by kernel_rfl) (by kernel_rfl) (by intros; kernel_rfl) ?_
      intro nf0 zf0 rf0 sf0 hdf0 hof0
      have apf0 := hya.cat hdf0 hof0
      exact again_V ⟨[], [], [], [(b ++ vlB m.p.v).length, sf0], [rf0]⟩ rfl (fun ids => Eq.trans (b := ⟨[], [], [], [b.length + (vlB m.p.v).length, sf0], [rf0]⟩) (by kernel_rfl) (by simp only [List.length_append])) _ (fun w2 ids hf => ⟨hf.x, hf.sep⟩) ⟨rf0, sf0, by rw [e2], by rw [e2], apf0⟩
    · refine br_F (ub u 16) (by kernel_rfl) (by simpa using h) ?_
      have e2 : b1 = b := by rw [eb1]; unfold bitB; rw [if_neg h, List.append_nil]
      exact again_V ⟨[], [], [], [b.length, yc], [ya]⟩ rfl (by intros; kernel_rfl) _ (fun w2 ids hf => ⟨hf.x, hf.sep⟩) ⟨ya, yc, by rw [e2], by rw [e2], hya⟩
  rintro vs hx' hcntb1 ⟨va1, vc1, rfl, rfl, aq1⟩
  refine holds_env (ρ' := ⟨[m.k, m.f, m.t, m.e, m.r, m.n, m.slot, m.low, m.tm, m.p.v.k, m.c.sess, m.c.seq, m.c.ack, m.c.op.kind, m.c.op.reg, m.c.op.tg, m.c.op.re, m.c.op.im, m.rk, m.re, m.im, (k : Int)], [], [.string s], [m.p.v.cs.length, m.p.c1, m.p.v.ns.length, m.p.c2, m.vs.length, m.cv, m.d.length, m.cd, A0.length, 4, A1.length, c1, A2.length, c2, A3.length, c3, A4.length, c4, 0, 0, b.length, yc, b1.length, vc1], [m.p.a1, m.p.a2, m.av, m.ad, a0, a1, a2, a3, a4, y0, ya, va1]⟩) (by kernel_rfl) ?_
  obtain ⟨b2, eb2⟩ : ∃ x, x = b1 ++ bitB u 32 (natsB [(m.vs.length : Int)]) := ⟨_, rfl⟩
  have lb2 : b2.length ≤ b1.length + 9 := by
    have h1 := bitB_len u 32 (natsB [(m.vs.length : Int)])
    have h2 : (natsB [(m.vs.length : Int)]).length ≤ 9 := natsB_len [(m.vs.length : Int)]
    rw [eb2, List.length_append]; omega
  refine ⟨MbI w R b2, ?_, ?_⟩
  · refine node_P ⟨[], [ub u 32], [], [], []⟩ #[.string s, .int .u8 111] (.bool (ub u 32)) (by intros; kernel_rfl) (by intros; kernel_rfl) (by kernel_rfl) (by kernel_rfl) (by kernel_rfl) oneNil (fun ids w2 hp hf => by have := has_any s 111 hsl w2; rw [show hasB s 111 = ub u 32 by rw [es, eu]; exact has_o m.k] at this; exact this) ?_
    by_cases h : ub u 32 = true
    · refine br_T (ub u 32) (by kernel_rfl) h ?_
      have e2 : b2 = b1 ++ (natsB [(m.vs.length : Int)]) := by rw [eb2]; unfold bitB; rw [if_pos h]
      have h2 : (natsB [(m.vs.length : Int)]).length ≤ 9 := natsB_len [(m.vs.length : Int)]
      refine node_catR (rest := R) (a := va1) (cap := vc1) (bs := b1) (bs2 := natsB [(m.vs.length : Int)]) (fun _ => #[.int .u64 (natU (m.vs.length : Int) : Int)]) (fun ids => by rw [← natU_c]; kernel_rfl) (fun k h1 h2 => (aq1 k h1 h2).2) (fun ids w2 hp hf => by rw [one1]; exact qn_any (natU_lt _) w2) rfl rfl (by intros; kernel_rfl) (by kernel_rfl) (by kernel_rfl) (by intros; kernel_rfl) (by intros; kernel_rfl) (by intros; kernel_rfl) (fun k h1 h2 => .inl (aq1 k h1 h2).1) (by omega) (by intros; kernel_rfl) (by kernel_rfl) (by kernel_rfl) (by intros; kernel_rfl) ?_
      intro nf0 zf0 rf0 sf0 hdf0 hof0
      have apf0 := aq1.cat hdf0 hof0
      exact again_V ⟨[], [], [], [(b1 ++ natsB [(m.vs.length : Int)]).length, sf0], [rf0]⟩ rfl (fun ids => Eq.trans (b := ⟨[], [], [], [b1.length + (natsB [(m.vs.length : Int)]).length, sf0], [rf0]⟩) (by kernel_rfl) (by simp only [List.length_append])) _ (fun w2 ids hf => ⟨hf.x, hf.sep⟩) ⟨rf0, sf0, by rw [e2], by rw [e2], apf0⟩
    · refine br_F (ub u 32) (by kernel_rfl) (by simpa using h) ?_
      have e2 : b2 = b1 := by rw [eb2]; unfold bitB; rw [if_neg h, List.append_nil]
      exact again_V ⟨[], [], [], [b1.length, vc1], [va1]⟩ rfl (by intros; kernel_rfl) _ (fun w2 ids hf => ⟨hf.x, hf.sep⟩) ⟨va1, vc1, by rw [e2], by rw [e2], aq1⟩
  rintro vs hx' hcntb2 ⟨va2, vc2, rfl, rfl, aq2⟩
  refine holds_env (ρ' := ⟨[m.k, m.f, m.t, m.e, m.r, m.n, m.slot, m.low, m.tm, m.p.v.k, m.c.sess, m.c.seq, m.c.ack, m.c.op.kind, m.c.op.reg, m.c.op.tg, m.c.op.re, m.c.op.im, m.rk, m.re, m.im, (k : Int)], [], [.string s], [m.p.v.cs.length, m.p.c1, m.p.v.ns.length, m.p.c2, m.vs.length, m.cv, m.d.length, m.cd, A0.length, 4, A1.length, c1, A2.length, c2, A3.length, c3, A4.length, c4, 0, 0, b.length, yc, b1.length, vc1, b2.length, vc2], [m.p.a1, m.p.a2, m.av, m.ad, a0, a1, a2, a3, a4, y0, ya, va1, va2]⟩) (by kernel_rfl) ?_
  have hvl := G.vl
  refine loop_i (MvI w R b2 m.vs) (fun vs => m.vs.length - (vs.i.headD 0).toNat) (fun ids w2 hp hf => ⟨_, ⟨hf.x, hf.sep⟩, 0, va2, vc2, Nat.zero_le _, aq2, by rw [List.take_zero, List.flatMap_nil, List.append_nil]; kernel_rfl, by rw [List.take_zero, List.flatMap_nil, List.append_nil]⟩) ?_
  rintro vs hx' hcnt6 ⟨j, va, vc, hj, hva, rfl, rfl⟩
  obtain ⟨q, eq⟩ : ∃ q, q = b2 ++ (m.vs.take j).flatMap voB := ⟨_, rfl⟩
  rw [← eq] at hcnt6 ⊢
  have lq : q.length ≤ 100000 := by
    have := vos_small (l := m.vs.take j) fun x hx => voB_small (hw.vs x (List.mem_of_mem_take hx)) (G.vo x (List.mem_of_mem_take hx)).2.2.2
    rw [List.length_take] at this
    rw [eq, List.length_append]; omega
  refine holds_env (ρ' := ⟨[m.k, m.f, m.t, m.e, m.r, m.n, m.slot, m.low, m.tm, m.p.v.k, m.c.sess, m.c.seq, m.c.ack, m.c.op.kind, m.c.op.reg, m.c.op.tg, m.c.op.re, m.c.op.im, m.rk, m.re, m.im, (k : Int), (j : Int)], [], [.string s], [m.p.v.cs.length, m.p.c1, m.p.v.ns.length, m.p.c2, m.vs.length, m.cv, m.d.length, m.cd, A0.length, 4, A1.length, c1, A2.length, c2, A3.length, c3, A4.length, c4, 0, 0, b.length, yc, b1.length, vc1, b2.length, vc2, q.length, vc], [m.p.a1, m.p.a2, m.av, m.ad, a0, a1, a2, a3, a4, y0, ya, va1, va2, va]⟩) (by kernel_rfl) ?_
  by_cases hltj : j < m.vs.length
  · refine br_T (decide ((j : Int) < (m.vs.length : Int))) (by kernel_rfl) (decide_eq_true (by omega)) ?_
    obtain ⟨x, hx⟩ : ∃ x, m.vs[j]? = some x := ⟨_, List.getElem?_eq_getElem hltj⟩
    have hxm := List.mem_of_getElem? hx
    have hxw := hw.vs x hxm
    have hxv := (G.vo x hxm).2.2.2
    have hsv := vlB_small hxw.v hxv
    have g1 := numB_len (natU_lt x.s)
    have g2 := numB_len (natU_lt x.r)
    have g3 := numB_len (natU_lt x.n)
    obtain ⟨s1, q1⟩ := vo_part H.1.2 hx 0 (voC x) (fun i v hi => by rw [Nat.zero_add]; exact hi) (by simp [voC])
    have hqn : q ++ voB x = b2 ++ (m.vs.take (j + 1)).flatMap voB := by
      rw [List.take_add_one, hx, List.flatMap_append, ← List.append_assoc, ← eq]; simp
    have hwj : IntKind.i64.wrap ((j : Int) + 1) = ((j + 1 : Nat) : Int) := by rw [wrap_i64 (by omega)]; omega
    refine need_k (m.av.isSome = true ∧ (0 : Int) ≤ j ∧ (j : Int) < m.vs.length) (by kernel_rfl) ⟨s1, by omega, by omega⟩ ?_
    refine node_ld0 (k := ⟨23, 0, 1, 28, 14⟩) ⟨[x.s, x.r, x.n, x.v.v.k], [], [], [x.v.v.cs.length, x.v.c1, x.v.v.ns.length, x.v.c2], [x.v.a1, x.v.a2]⟩ (.pointer (some (((m.av.getD ⟨0, 0, none⟩).add (j * 6)).add 0))) (voC x) (by intros; kernel_rfl) (by intros; kernel_rfl) q1 ⟨by kernel_rfl, (fun v hv => by simp only [List.mem_singleton] at hv; subst hv; rfl)⟩ (by kernel_rfl) oneNil ?_
    refine holds_env (ρ' := ⟨[m.k, m.f, m.t, m.e, m.r, m.n, m.slot, m.low, m.tm, m.p.v.k, m.c.sess, m.c.seq, m.c.ack, m.c.op.kind, m.c.op.reg, m.c.op.tg, m.c.op.re, m.c.op.im, m.rk, m.re, m.im, (k : Int), (j : Int), x.s, x.r, x.n, x.v.v.k], [], [.string s], [m.p.v.cs.length, m.p.c1, m.p.v.ns.length, m.p.c2, m.vs.length, m.cv, m.d.length, m.cd, A0.length, 4, A1.length, c1, A2.length, c2, A3.length, c3, A4.length, c4, 0, 0, b.length, yc, b1.length, vc1, b2.length, vc2, q.length, vc, x.v.v.cs.length, x.v.c1, x.v.v.ns.length, x.v.c2], [m.p.a1, m.p.a2, m.av, m.ad, a0, a1, a2, a3, a4, y0, ya, va1, va2, va, x.v.a1, x.v.a2]⟩) (by kernel_rfl) ?_
    have voat : ∀ {w2 : World}, B.X w2 → VlAt w2 x.v.v x.v.a1 x.v.a2 := fun h => voX_at (BX h).1.2 (fun y hy => (hw.vs y hy).v.f) hxm
    refine node_catR (rest := R) (a := va) (cap := vc) (bs := q) (bs2 := numB (natU x.s)) (fun _ => #[.int .u64 (natU x.s : Int)]) (fun ids => by rw [← natU_c]; kernel_rfl) (fun k h1 h2 => (hva k h1 h2).2) (fun ids w2 hp hf => qn_any (natU_lt _) w2) rfl rfl (by intros; kernel_rfl) (by kernel_rfl) (by kernel_rfl) (by intros; kernel_rfl) (by intros; kernel_rfl) (by intros; kernel_rfl) (fun k h1 h2 => .inl (hva k h1 h2).1) (by omega) (by intros; kernel_rfl) (by kernel_rfl) (by kernel_rfl) (by intros; kernel_rfl) ?_
    intro ng0 zg0 rg0 sg0 hdg0 hog0
    have apg0 := hva.cat hdg0 hog0
    obtain ⟨t0, et0⟩ : ∃ z, z = q ++ numB (natU x.s) := ⟨_, rfl⟩
    have lt0 : t0.length = q.length + (numB (natU x.s)).length := by rw [et0, List.length_append]
    rw [← et0, ← lt0]
    refine node_catR (rest := R) (a := rg0) (cap := sg0) (bs := t0) (bs2 := numB (natU x.r)) (fun _ => #[.int .u64 (natU x.r : Int)]) (fun ids => by rw [← natU_c]; kernel_rfl) (fun k h1 h2 => (apg0 k h1 h2).2) (fun ids w2 hp hf => qn_any (natU_lt _) w2) rfl rfl (by intros; kernel_rfl) (by kernel_rfl) (by kernel_rfl) (by intros; kernel_rfl) (by intros; kernel_rfl) (by intros; kernel_rfl) (fun k h1 h2 => .inl (apg0 k h1 h2).1) (by omega) (by intros; kernel_rfl) (by kernel_rfl) (by kernel_rfl) (by intros; kernel_rfl) ?_
    intro ng1 zg1 rg1 sg1 hdg1 hog1
    have apg1 := apg0.cat hdg1 hog1
    obtain ⟨t1, et1⟩ : ∃ z, z = t0 ++ numB (natU x.r) := ⟨_, rfl⟩
    have lt1 : t1.length = t0.length + (numB (natU x.r)).length := by rw [et1, List.length_append]
    rw [← et1, ← lt1]
    refine node_catR (rest := R) (a := rg1) (cap := sg1) (bs := t1) (bs2 := numB (natU x.n)) (fun _ => #[.int .u64 (natU x.n : Int)]) (fun ids => by rw [← natU_c]; kernel_rfl) (fun k h1 h2 => (apg1 k h1 h2).2) (fun ids w2 hp hf => qn_any (natU_lt _) w2) rfl rfl (by intros; kernel_rfl) (by kernel_rfl) (by kernel_rfl) (by intros; kernel_rfl) (by intros; kernel_rfl) (by intros; kernel_rfl) (fun k h1 h2 => .inl (apg1 k h1 h2).1) (by omega) (by intros; kernel_rfl) (by kernel_rfl) (by kernel_rfl) (by intros; kernel_rfl) ?_
    intro ng2 zg2 rg2 sg2 hdg2 hog2
    have apg2 := apg1.cat hdg2 hog2
    obtain ⟨t2, et2⟩ : ∃ z, z = t1 ++ numB (natU x.n) := ⟨_, rfl⟩
    have lt2 : t2.length = t1.length + (numB (natU x.n)).length := by rw [et2, List.length_append]
    rw [← et2, ← lt2]
    refine node_catR (rest := R) (a := rg2) (cap := sg2) (bs := t2) (bs2 := vlB x.v.v) (fun _ => #[vlV x.v.v x.v.a1 x.v.c1 x.v.a2 x.v.c2]) (by intros; kernel_rfl) (fun k h1 h2 => (apg2 k h1 h2).2) (fun ids w2 hp hf => rbytes_any x.v.v x.v.a1 x.v.c1 x.v.a2 x.v.c2 hxw.v hxv w2 (voat (RB hf.x.1))) rfl rfl (by intros; kernel_rfl) (by kernel_rfl) (by kernel_rfl) (by intros; kernel_rfl) (by intros; kernel_rfl) (by intros; kernel_rfl) (fun k h1 h2 => .inl (apg2 k h1 h2).1) (by omega) (by intros; kernel_rfl) (by kernel_rfl) (by kernel_rfl) (by intros; kernel_rfl) ?_
    intro ng3 zg3 rg3 sg3 hdg3 hog3
    have apg3 := apg2.cat hdg3 hog3
    have hvb : t2 ++ vlB x.v.v = q ++ voB x := by rw [et2, et1, et0]; unfold voB; simp only [List.append_assoc]
    refine again_V ⟨[((j + 1 : Nat) : Int)], [], [], [(t2 ++ vlB x.v.v).length, sg3], [rg3]⟩ rfl (fun ids => Eq.trans (b := ⟨[IntKind.i64.wrap ((j : Int) + 1)], [], [], [t2.length + (vlB x.v.v).length, sg3], [rg3]⟩) (by kernel_rfl) (by rw [hwj, List.length_append])) _ (fun w2 ids hf => ⟨hf.x, hf.sep⟩) ⟨⟨j + 1, rg3, sg3, hltj, apg3, by rw [hvb, hqn], by rw [hvb, hqn]⟩, ?_⟩
    show m.vs.length - (((j + 1 : Nat) : Int)).toNat < m.vs.length - ((j : Int)).toNat
    omega
  refine br_F (decide ((j : Int) < (m.vs.length : Int))) (by kernel_rfl) (decide_eq_false (by omega)) ?_
  have hq0 : q = b2 ++ m.vs.flatMap voB := by rw [eq, List.take_of_length_le (by omega)]
  obtain ⟨b3, eb3⟩ : ∃ x, x = q ++ bitB u 64 (cmdB m.c) := ⟨_, rfl⟩
  have lb3 : b3.length ≤ q.length + 72 := by
    have h1 := bitB_len u 64 (cmdB m.c)
    have h2 := cmdB_len hw.c
    rw [eb3, List.length_append]; omega
  refine ⟨MbI w R b3, ?_, ?_⟩
  · refine node_P ⟨[], [ub u 64], [], [], []⟩ #[.string s, .int .u8 99] (.bool (ub u 64)) (by intros; kernel_rfl) (by intros; kernel_rfl) (by kernel_rfl) (by kernel_rfl) (by kernel_rfl) oneNil (fun ids w2 hp hf => by have := has_any s 99 hsl w2; rw [show hasB s 99 = ub u 64 by rw [es, eu]; exact has_c m.k] at this; exact this) ?_
    by_cases h : ub u 64 = true
    · refine br_T (ub u 64) (by kernel_rfl) h ?_
      have e2 : b3 = q ++ (cmdB m.c) := by rw [eb3]; unfold bitB; rw [if_pos h]
      have h2 := cmdB_len hw.c
      refine node_catR (rest := R) (a := va) (cap := vc) (bs := q) (bs2 := cmdB m.c) (fun _ => #[.agg m.c.cells.toArray]) (by intros; kernel_rfl) (fun k h1 h2 => (hva k h1 h2).2) (fun ids w2 hp hf => qcmd_any m.c hw.c w2) rfl rfl (by intros; kernel_rfl) (by kernel_rfl) (by kernel_rfl) (by intros; kernel_rfl) (by intros; kernel_rfl) (by intros; kernel_rfl) (fun k h1 h2 => .inl (hva k h1 h2).1) (by omega) (by intros; kernel_rfl) (by kernel_rfl) (by kernel_rfl) (by intros; kernel_rfl) ?_
      intro nf0 zf0 rf0 sf0 hdf0 hof0
      have apf0 := hva.cat hdf0 hof0
      exact again_V ⟨[], [], [], [(q ++ cmdB m.c).length, sf0], [rf0]⟩ rfl (fun ids => Eq.trans (b := ⟨[], [], [], [q.length + (cmdB m.c).length, sf0], [rf0]⟩) (by kernel_rfl) (by simp only [List.length_append])) _ (fun w2 ids hf => ⟨hf.x, hf.sep⟩) ⟨rf0, sf0, by rw [e2], by rw [e2], apf0⟩
    · refine br_F (ub u 64) (by kernel_rfl) (by simpa using h) ?_
      have e2 : b3 = q := by rw [eb3]; unfold bitB; rw [if_neg h, List.append_nil]
      exact again_V ⟨[], [], [], [q.length, vc], [va]⟩ rfl (by intros; kernel_rfl) _ (fun w2 ids hf => ⟨hf.x, hf.sep⟩) ⟨va, vc, by rw [e2], by rw [e2], hva⟩
  rintro vs hx' hcntb3 ⟨va3, vc3, rfl, rfl, aq3⟩
  refine holds_env (ρ' := ⟨[m.k, m.f, m.t, m.e, m.r, m.n, m.slot, m.low, m.tm, m.p.v.k, m.c.sess, m.c.seq, m.c.ack, m.c.op.kind, m.c.op.reg, m.c.op.tg, m.c.op.re, m.c.op.im, m.rk, m.re, m.im, (k : Int), (j : Int)], [], [.string s], [m.p.v.cs.length, m.p.c1, m.p.v.ns.length, m.p.c2, m.vs.length, m.cv, m.d.length, m.cd, A0.length, 4, A1.length, c1, A2.length, c2, A3.length, c3, A4.length, c4, 0, 0, b.length, yc, b1.length, vc1, b2.length, vc2, q.length, vc, b3.length, vc3], [m.p.a1, m.p.a2, m.av, m.ad, a0, a1, a2, a3, a4, y0, ya, va1, va2, va, va3]⟩) (by kernel_rfl) ?_
  obtain ⟨b4, eb4⟩ : ∃ x, x = b3 ++ bitB u 128 (resY m) := ⟨_, rfl⟩
  have lb4 : b4.length ≤ b3.length + 27 := by
    have h1 := bitB_len u 128 (resY m)
    have h2 := numB_len (foldN_lt hw.rk)
    have h3 := numB_len (foldN_lt hw.re)
    have h4 := numB_len (foldN_lt hw.im)
    have h5 : (resY m).length ≤ 27 := by unfold resY; simp only [List.length_append]; omega
    rw [eb4, List.length_append]; omega
  refine ⟨MbI w R b4, ?_, ?_⟩
  · refine node_P ⟨[], [ub u 128], [], [], []⟩ #[.string s, .int .u8 114] (.bool (ub u 128)) (by intros; kernel_rfl) (by intros; kernel_rfl) (by kernel_rfl) (by kernel_rfl) (by kernel_rfl) oneNil (fun ids w2 hp hf => by have := has_any s 114 hsl w2; rw [show hasB s 114 = ub u 128 by rw [es, eu]; exact has_r m.k] at this; exact this) ?_
    by_cases h : ub u 128 = true
    · refine br_T (ub u 128) (by kernel_rfl) h ?_
      have e2 : b4 = b3 ++ (resY m) := by rw [eb4]; unfold bitB; rw [if_pos h]
      have h2 := numB_len (foldN_lt hw.rk); have h3 := numB_len (foldN_lt hw.re); have h4 := numB_len (foldN_lt hw.im); unfold resY at e2
      refine node_catR (rest := R) (a := va3) (cap := vc3) (bs := b3) (bs2 := numB (foldN m.rk)) (fun _ => #[.int .i64 m.rk]) (by intros; kernel_rfl) (fun k h1 h2 => (aq3 k h1 h2).2) (fun ids w2 hp hf => qi_any hw.rk w2) rfl rfl (by intros; kernel_rfl) (by kernel_rfl) (by kernel_rfl) (by intros; kernel_rfl) (by intros; kernel_rfl) (by intros; kernel_rfl) (fun k h1 h2 => .inl (aq3 k h1 h2).1) (by omega) (by intros; kernel_rfl) (by kernel_rfl) (by kernel_rfl) (by intros; kernel_rfl) ?_
      intro nf0 zf0 rf0 sf0 hdf0 hof0
      have apf0 := aq3.cat hdf0 hof0
      obtain ⟨g0, eg0⟩ : ∃ x, x = (b3 ++ numB (foldN m.rk)) := ⟨_, rfl⟩
      have lg0 : g0.length = b3.length + (numB (foldN m.rk)).length := by rw [eg0, List.length_append]
      rw [← eg0, ← lg0]
      refine node_catR (rest := R) (a := rf0) (cap := sf0) (bs := g0) (bs2 := numB (foldN m.re)) (fun _ => #[.int .i64 m.re]) (by intros; kernel_rfl) (fun k h1 h2 => (apf0 k h1 h2).2) (fun ids w2 hp hf => qi_any hw.re w2) rfl rfl (by intros; kernel_rfl) (by kernel_rfl) (by kernel_rfl) (by intros; kernel_rfl) (by intros; kernel_rfl) (by intros; kernel_rfl) (fun k h1 h2 => .inl (apf0 k h1 h2).1) (by omega) (by intros; kernel_rfl) (by kernel_rfl) (by kernel_rfl) (by intros; kernel_rfl) ?_
      intro nf1 zf1 rf1 sf1 hdf1 hof1
      have apf1 := apf0.cat hdf1 hof1
      obtain ⟨g1, eg1⟩ : ∃ x, x = (g0 ++ numB (foldN m.re)) := ⟨_, rfl⟩
      have lg1 : g1.length = g0.length + (numB (foldN m.re)).length := by rw [eg1, List.length_append]
      rw [← eg1, ← lg1]
      refine node_catR (rest := R) (a := rf1) (cap := sf1) (bs := g1) (bs2 := numB (foldN m.im)) (fun _ => #[.int .i64 m.im]) (by intros; kernel_rfl) (fun k h1 h2 => (apf1 k h1 h2).2) (fun ids w2 hp hf => qi_any hw.im w2) rfl rfl (by intros; kernel_rfl) (by kernel_rfl) (by kernel_rfl) (by intros; kernel_rfl) (by intros; kernel_rfl) (by intros; kernel_rfl) (fun k h1 h2 => .inl (apf1 k h1 h2).1) (by omega) (by intros; kernel_rfl) (by kernel_rfl) (by kernel_rfl) (by intros; kernel_rfl) ?_
      intro nf2 zf2 rf2 sf2 hdf2 hof2
      have apf2 := apf1.cat hdf2 hof2
      exact again_V ⟨[], [], [], [(g1 ++ numB (foldN m.im)).length, sf2], [rf2]⟩ rfl (fun ids => Eq.trans (b := ⟨[], [], [], [g1.length + (numB (foldN m.im)).length, sf2], [rf2]⟩) (by kernel_rfl) (by simp only [List.length_append])) _ (fun w2 ids hf => ⟨hf.x, hf.sep⟩) ⟨rf2, sf2, by rw [e2, eg1, eg0, List.append_assoc, List.append_assoc], by rw [e2, eg1, eg0, List.append_assoc, List.append_assoc], apf2⟩
    · refine br_F (ub u 128) (by kernel_rfl) (by simpa using h) ?_
      have e2 : b4 = b3 := by rw [eb4]; unfold bitB; rw [if_neg h, List.append_nil]
      exact again_V ⟨[], [], [], [b3.length, vc3], [va3]⟩ rfl (by intros; kernel_rfl) _ (fun w2 ids hf => ⟨hf.x, hf.sep⟩) ⟨va3, vc3, by rw [e2], by rw [e2], aq3⟩
  rintro vs hx' hcntb4 ⟨va4, vc4, rfl, rfl, aq4⟩
  refine holds_env (ρ' := ⟨[m.k, m.f, m.t, m.e, m.r, m.n, m.slot, m.low, m.tm, m.p.v.k, m.c.sess, m.c.seq, m.c.ack, m.c.op.kind, m.c.op.reg, m.c.op.tg, m.c.op.re, m.c.op.im, m.rk, m.re, m.im, (k : Int), (j : Int)], [], [.string s], [m.p.v.cs.length, m.p.c1, m.p.v.ns.length, m.p.c2, m.vs.length, m.cv, m.d.length, m.cd, A0.length, 4, A1.length, c1, A2.length, c2, A3.length, c3, A4.length, c4, 0, 0, b.length, yc, b1.length, vc1, b2.length, vc2, q.length, vc, b3.length, vc3, b4.length, vc4], [m.p.a1, m.p.a2, m.av, m.ad, a0, a1, a2, a3, a4, y0, ya, va1, va2, va, va3, va4]⟩) (by kernel_rfl) ?_
  obtain ⟨b5, eb5⟩ : ∃ x, x = b4 ++ bitB u 256 (numB m.d.length ++ m.d) := ⟨_, rfl⟩
  have lb5 : b5.length ≤ b4.length + 1033 := by
    have h1 := bitB_len u 256 (numB m.d.length ++ m.d)
    have hdl : m.d.length ≤ 1024 := by have := G.pl.dl; omega
    have h2 := numB_len (u := m.d.length) (by omega)
    have h3 : (numB m.d.length ++ m.d).length = (numB m.d.length).length + m.d.length := List.length_append
    rw [eb5, List.length_append]; omega
  refine ⟨MbI w R b5, ?_, ?_⟩
  · refine node_P ⟨[], [ub u 256], [], [], []⟩ #[.string s, .int .u8 100] (.bool (ub u 256)) (by intros; kernel_rfl) (by intros; kernel_rfl) (by kernel_rfl) (by kernel_rfl) (by kernel_rfl) oneNil (fun ids w2 hp hf => by have := has_any s 100 hsl w2; rw [show hasB s 100 = ub u 256 by rw [es, eu]; exact has_d m.k] at this; exact this) ?_
    by_cases h : ub u 256 = true
    · refine br_T (ub u 256) (by kernel_rfl) h ?_
      have e2 : b5 = b4 ++ (numB m.d.length ++ m.d) := by rw [eb5]; unfold bitB; rw [if_pos h]
      have hdl : m.d.length ≤ 1024 := by have := G.pl.dl; omega
      have h2 := numB_len (u := m.d.length) (by omega)
      have h3 : (numB m.d.length ++ m.d).length = (numB m.d.length).length + m.d.length := List.length_append
      refine node_catR (rest := R) (a := va4) (cap := vc4) (bs := b4) (bs2 := (numB m.d.length ++ m.d)) (fun _ => #[.slice m.ad m.d.length m.cd]) (by intros; kernel_rfl) (fun k h1 h2 => (aq4 k h1 h2).2) (fun ids w2 hp hf => qtext_any m.ad m.cd m.d w2 (BX (RB hf.x.1)).2 (by have := G.pl.dl; omega)) rfl rfl (by intros; kernel_rfl) (by kernel_rfl) (by kernel_rfl) (by intros; kernel_rfl) (by intros; kernel_rfl) (by intros; kernel_rfl) (fun k h1 h2 => .inl (aq4 k h1 h2).1) (by omega) (by intros; kernel_rfl) (by kernel_rfl) (by kernel_rfl) (by intros; kernel_rfl) ?_
      intro nf0 zf0 rf0 sf0 hdf0 hof0
      have apf0 := aq4.cat hdf0 hof0
      exact again_V ⟨[], [], [], [(b4 ++ (numB m.d.length ++ m.d)).length, sf0], [rf0]⟩ rfl (fun ids => Eq.trans (b := ⟨[], [], [], [b4.length + ((numB m.d.length ++ m.d)).length, sf0], [rf0]⟩) (by kernel_rfl) (by simp only [List.length_append])) _ (fun w2 ids hf => ⟨hf.x, hf.sep⟩) ⟨rf0, sf0, by rw [e2], by rw [e2], apf0⟩
    · refine br_F (ub u 256) (by kernel_rfl) (by simpa using h) ?_
      have e2 : b5 = b4 := by rw [eb5]; unfold bitB; rw [if_neg h, List.append_nil]
      exact again_V ⟨[], [], [], [b4.length, vc4], [va4]⟩ rfl (by intros; kernel_rfl) _ (fun w2 ids hf => ⟨hf.x, hf.sep⟩) ⟨va4, vc4, by rw [e2], by rw [e2], aq4⟩
  rintro vs hx' hcntb5 ⟨va5, vc5, rfl, rfl, aq5⟩
  refine holds_env (ρ' := ⟨[m.k, m.f, m.t, m.e, m.r, m.n, m.slot, m.low, m.tm, m.p.v.k, m.c.sess, m.c.seq, m.c.ack, m.c.op.kind, m.c.op.reg, m.c.op.tg, m.c.op.re, m.c.op.im, m.rk, m.re, m.im, (k : Int), (j : Int)], [], [.string s], [m.p.v.cs.length, m.p.c1, m.p.v.ns.length, m.p.c2, m.vs.length, m.cv, m.d.length, m.cd, A0.length, 4, A1.length, c1, A2.length, c2, A3.length, c3, A4.length, c4, 0, 0, b.length, yc, b1.length, vc1, b2.length, vc2, q.length, vc, b3.length, vc3, b4.length, vc4, b5.length, vc5], [m.p.a1, m.p.a2, m.av, m.ad, a0, a1, a2, a3, a4, y0, ya, va1, va2, va, va3, va4, va5]⟩) (by kernel_rfl) ?_
  have hfin : b5 = mB m := by
    rw [eb5, eb4, eb3, hq0, eb2, eb1, hb0, eA4, eA3, eA2, eA1, eA0]
    simp only [natsB_app, natsB_bN]
    have h4 : natsB [m.k, m.f, m.t, m.e] = numB (natU m.k) ++ (numB (natU m.f) ++ (numB (natU m.t) ++ numB (natU m.e))) := by unfold natsB; simp
    rw [h4, eu]
    unfold mB resY
    simp only [List.append_assoc]
  rw [← hfin]
  intro ids w2 hp hf
  exact ⟨va5, vc5, by kernel_rfl, hf.x.2, fun k h1 h2 => (aq5 k h1 h2).1, hf.chg.below⟩
end Go.Proofs.Ytadgaefmoobcoaa

namespace Go.Proofs.Ytadgaefmoobcoaa
open Go.Eng
set_option maxRecDepth 100000
abbrev tLEnc7b0 : List LV := [(tVi 21), (tVi 22), (tVi 23), (tVi 24), (tVi 25), (tVi 26), (tVi 27), (tVi 28), (tVi 29), (tVi 30), (tSl 4 8 9), (tSl 5 10 11), (tSl 6 12 13), (tVi 31), (tVi 32), (tVi 33), (tVi 34), (tVi 35), (tVi 36), (tVi 37), (tVi 38), (tVi 39), (tVi 40), (tVi 41), (tSl 7 14 15)]
abbrev tLEnc7b1 : List LV := [(tVi 0), (tVi 1), (tVi 2), (tVi 3), (tVi 4), (tVi 5), (tVi 6), (tVi 7), (tVi 8), (tVi 9), (tSl 0 0 1), (tSl 1 2 3), (tSl 2 4 5), (tVi 10), (tVi 11), (tVi 12), (tVi 13), (tVi 14), (tVi 15), (tVi 16), (tVi 17), (tVi 18), (tVi 19), (tVi 20), (tSl 3 6 7)]
abbrev tLEnc7m0 : Mem := ⟨[(37, tLEnc7b1), (37, tLEnc7b0)], ⟨45, 1, 0, 20, 10⟩⟩
abbrev tLEnc7m1 : Mem := ⟨[(37, tLEnc7b1), (37, tLEnc7b0)], ⟨45, 2, 0, 20, 10⟩⟩
abbrev tLEnc7m2 : Mem := ⟨[(37, tLEnc7b1), (37, tLEnc7b0)], ⟨45, 2, 0, 22, 11⟩⟩
abbrev tLEnc7m3 : Mem := ⟨[(37, tLEnc7b1), (37, tLEnc7b0)], ⟨45, 3, 0, 22, 11⟩⟩
abbrev tLEnc7m4 : Mem := ⟨[(37, tLEnc7b1), (37, tLEnc7b0)], ⟨46, 3, 0, 22, 11⟩⟩
abbrev tLEnc7m5 : Mem := ⟨[(37, tLEnc7b1), (37, tLEnc7b0)], ⟨47, 3, 0, 22, 11⟩⟩
abbrev tLEnc7m6 : Mem := ⟨[(37, tLEnc7b1), (37, tLEnc7b0)], ⟨46, 3, 0, 24, 12⟩⟩
abbrev tLEnc7m7 : Mem := ⟨[(37, tLEnc7b1), (37, tLEnc7b0)], ⟨46, 4, 0, 24, 12⟩⟩
abbrev tLEnc7m8 : Mem := ⟨[(37, tLEnc7b1), (37, tLEnc7b0)], ⟨43, 1, 0, 16, 8⟩⟩
abbrev tLEnc7m9 : Mem := ⟨[(37, tLEnc7b1), (37, tLEnc7b0)], ⟨44, 1, 0, 18, 9⟩⟩
set_option maxRecDepth 100000 in
theorem tLEnc7 : (runF ⟨tt, fns, { loops := [(14, ⟨[(52, .int .i64)], []⟩)], cur := [8] }⟩ (Try.f4.body.getD .skip) Try.f4.results.toList (entry Try.f4.ntmps [.agg [.int .i64 (.var 0), .int .i64 (.var 1), .int .i64 (.var 2), .int .i64 (.var 3), .int .i64 (.var 4), .int .i64 (.var 5), .int .i64 (.var 6), .int .i64 (.var 7), .int .i64 (.var 8), .int .i64 (.var 9), .sl 0 (.var 0) (.var 1), .sl 1 (.var 2) (.var 3), .sl 2 (.var 4) (.var 5), .int .i64 (.var 10), .int .i64 (.var 11), .int .i64 (.var 12), .int .i64 (.var 13), .int .i64 (.var 14), .int .i64 (.var 15), .int .i64 (.var 16), .int .i64 (.var 17), .int .i64 (.var 18), .int .i64 (.var 19), .int .i64 (.var 20), .sl 3 (.var 6) (.var 7)]] [] ⟨21, 0, 0, 8, 4⟩)) =
  (.call 9 [] ⟨[(37, tLEnc7b1)], ⟨21, 0, 0, 8, 4⟩⟩ (.lf (.bool (.var 0))) ⟨[(37, tLEnc7b1)], ⟨21, 1, 0, 8, 4⟩⟩ (.br (.not (.var 0)) (.done (.lf (.bool (.lit .false))) ⟨[(37, tLEnc7b1)], ⟨21, 1, 0, 8, 4⟩⟩) (.call 11 [(.agg tLEnc7b1)] ⟨[(37, tLEnc7b1)], ⟨21, 1, 0, 8, 4⟩⟩ (.agg tLEnc7b0) ⟨[(37, tLEnc7b1)], ⟨42, 1, 0, 16, 8⟩⟩ (.call 12 [(.agg tLEnc7b1)] ⟨[(37, tLEnc7b1), (37, tLEnc7b0)], ⟨42, 1, 0, 16, 8⟩⟩ (.lf (tVi 42)) tLEnc7m8 (.call 16 [(.agg tLEnc7b0)] tLEnc7m8 (.tup [(.false, [(tSl 8 16 17)]), (.false, [(tVi 43)])]) tLEnc7m9 (.call 16 [(.agg tLEnc7b0)] tLEnc7m9 (.tup [(.false, [(tSl 9 18 19)]), (.false, [(tVi 44)])]) tLEnc7m0 (.br (.cmp .neq (.var 43) (.var 42)) (.done (.lf (.bool (.lit .false))) tLEnc7m0) (.call 17 [(.agg tLEnc7b0), (.agg tLEnc7b1)] tLEnc7m0 (.lf (.bool (.var 1))) tLEnc7m1 (.br (.not (.var 1)) (.done (.lf (.bool (.lit .false))) tLEnc7m1) (.br (.cmp .neq (.var 42) (.lit 0)) (.done (.lf (.bool (.cmp .eql (.nat 16) (.lit 0)))) tLEnc7m1) (.call 19 [(.agg tLEnc7b1)] tLEnc7m1 (.lf (tSl 10 20 21)) tLEnc7m2 (.call 18 [(.lf (tSl 8 16 17)), (.lf (tSl 10 20 21))] tLEnc7m2 (.lf (.bool (.var 2))) tLEnc7m3 (.br (.not (.var 2)) (.done (.lf (.bool (.lit .false))) tLEnc7m3) (.br (.cmp .gtr (.nat 16) (.lit 65536)) (.done (.lf (.bool (.lit .false))) tLEnc7m3) (.loop 14 ⟨[(.lit 0)], [], [], [], []⟩ tLEnc7m3 tLEnc7m4 (.br (.cmp .lss (.var 45) (.nat 16)) (.need (.inb 8 (.var 45) (.nat 16)) (.ld .true (.adr 8 (.var 45) 1 0) [(.int .u8 (.var 46))] tLEnc7m4 tLEnc7m5 (.need (.inb 8 (.var 45) (.nat 16)) (.gen (.store 5 (.tmp 60) (.tmp 59)) 0 [(60, (.lf (.adr 8 (.var 45) 1 0))), (59, (.lf (.int .u8 (.op .xor .u8 (.var 46) (.lit 255)))))] tLEnc7m5 .none tLEnc7m5 (.again 14 ⟨[(.op .add .i64 (.var 45) (.lit 1))], [], [], [], []⟩ tLEnc7m5))))) (.call 19 [(.agg tLEnc7b1)] tLEnc7m4 (.lf (tSl 11 22 23)) tLEnc7m6 (.call 18 [(.lf (tSl 9 18 19)), (.lf (tSl 11 22 23))] tLEnc7m6 (.lf (.bool (.var 3))) tLEnc7m7 (.done (.lf (.bool (.var 3))) tLEnc7m7))))))))))))))))))) := by kernel_rfl
end Go.Proofs.Ytadgaefmoobcoaa

namespace Go.Proofs.Ytadgaefmoobcoaa
open Go.ChangeShapes Go.WideShapes Go.ChangeAt Go.RowKit Go.Syn Go.Eng
set_option linter.unusedVariables false
set_option linter.unusedSimpArgs false
set_option maxRecDepth 100000
def CoI (B : HX) (n : Nat) (a : Option Addr) (c : Nat) (vs : Vals) (hx : HX) : Prop := ∃ (k : Nat) (d : List Int), k ≤ n ∧ d.length = n ∧ vs = ⟨[(k : Int)], [], [], [], []⟩ ∧ hx = B.and (frow a c d)
theorem frow_spl {a : Option Addr} {c k : Nat} {d : List Int} {z : Int} (h : k < d.length) : HX.rw 1 5 a d.length c (spl (bcells d) (k * 1 + 0) [.int .u8 z]) = frow a c (d.take k ++ z :: d.drop (k + 1)) := by
  have e1 : spl (bcells d) (k * 1 + 0) [.int .u8 z] = bcells (d.take k ++ z :: d.drop (k + 1)) := by
    unfold spl bcells
    rw [List.map_append, List.map_cons, List.map_drop, List.map_take]
    simp
  have e2 : (d.take k ++ z :: d.drop (k + 1)).length = d.length := by rw [List.length_append, List.length_cons, List.length_take, List.length_drop]; omega
  unfold frow
  rw [e1, e2]
def encC (o : Mc) : List Int := if chkC o = 0 then mBc o else []
theorem enc_is (m : Ms) : encM m = encC m.con := by unfold encM encC; rw [chkC_is, mB_con]
set_option maxHeartbeats 8000000 in
theorem enc7_walk (m : Ms) (w : World) (H : m.X.X w) (hw : MsWf m) (hl : m.vs.length * 80 ≤ 140737488355328) :
    Calls Try.prog 4 #[m.val] w (PureAt w (.bool true)) := by
  obtain ⟨B, eB⟩ : ∃ x, x = m.X := ⟨_, rfl⟩
  have BX : ∀ {w}, B.X w → m.X.X w := fun h => by rw [eB] at h; exact h
  refine calls_at (tab_ok _) Try.func4 rfl tLEnc7 (ρ := ⟨m.ints, [], [], m.nats, m.adrs⟩) (ids := []) (hx := B) rfl (Facts.initq rfl oneNil (by rw [eB]; exact H) (fun k hk => by rw [eB] at hk; exact Ms.X_sep H k hk)) ?_
  refine node_P ⟨[], [true], [], [], []⟩ #[] (.bool true) (by intros; kernel_rfl) (by intros; kernel_rfl) (by kernel_rfl) (by kernel_rfl) (by kernel_rfl) oneNil (fun ids w2 hp hf => head7_any w2) ?_
  refine br_F false (by kernel_rfl) rfl ?_
  refine node_cpm rfl m hw.fit hl hw.dl (fun ids w2 hp hf => BX hf.x) (by intros; kernel_rfl) (by intros; kernel_rfl) (by kernel_rfl) (by kernel_rfl) (by intros; kernel_rfl) ?_
  intro y hy fy
  have hyw := hw.of hy
  obtain ⟨e0, ee0⟩ : ∃ x, x = chkC m.con := ⟨_, rfl⟩
  obtain ⟨eb, eeb⟩ : ∃ x, x = encC m.con := ⟨_, rfl⟩
  refine node_PI ⟨[e0], [], [], [], []⟩ (fun _ => #[m.val]) (.int .i64 e0) (by intros; kernel_rfl) (by intros; kernel_rfl) (by kernel_rfl) (by kernel_rfl) (by kernel_rfl) oneNil (fun ids w2 hp hf => by rw [ee0, ← chkC_is]; exact rmchk_any m w2 (BX hf.x.1) hw.fit (fun x hx => (hw.vs x hx).s)) ?_
  refine node_enc rfl y hyw eb e0 (by rw [enc_is, hy, eeb]) (by rw [chkC_is, hy, ee0]) (fun ids w2 hp hf => R_X hf.x.2) (by intros; kernel_rfl) (by intros; kernel_rfl) (by kernel_rfl) (by kernel_rfl) (by intros; kernel_rfl) ?_
  intro a1 c1 hs1 hn1
  refine node_enc rfl y hyw eb e0 (by rw [enc_is, hy, eeb]) (by rw [chkC_is, hy, ee0]) (fun ids w2 hp hf => R_X hf.x.1.2) (by intros; kernel_rfl) (by intros; kernel_rfl) (by kernel_rfl) (by kernel_rfl) (by intros; kernel_rfl) ?_
  intro a2 c2 hs2 hn2
  refine br_F (e0 != e0) (by kernel_rfl) (by simp) ?_
  refine node_PI ⟨[], [true], [], [], []⟩ (fun _ => #[y.val, m.val]) (.bool true) (by intros; kernel_rfl) (by intros; kernel_rfl) (by kernel_rfl) (by kernel_rfl) (by kernel_rfl) oneNil (fun ids w2 hp hf => by
    have := rsame7_any y m w2 (R_X hf.x.1.1.2) (BX hf.x.1.1.1) hyw hw
    rw [mcSame_t hy] at this
    exact this) ?_
  refine br_f (by kernel_rfl) ?_
  by_cases h0 : e0 = 0
  case' neg =>
    refine br_T (e0 != 0) (by kernel_rfl) (by simpa using h0) ?_
    have he : eb = [] := by rw [eeb]; unfold encC; rw [if_neg (by rw [← ee0]; exact h0)]
    exact pure_done (fun ids => Eq.trans (b := .bool ((eb.length : Int) == 0)) (by kernel_rfl) (by rw [he]; rfl))
  refine br_F (e0 != 0) (by kernel_rfl) (by simpa using h0) ?_
  have hc0 : chkM m = 0 := by rw [chkC_is, ← ee0, h0]
  have hmb : mB m = eb := by rw [mB_con, eeb]; unfold encC; rw [if_pos (by rw [← ee0, h0])]
  have hsm := mB_small hw hc0
  rw [hmb] at hsm
  refine node_newi (V := id) (bs := eb) (fun ids => #[m.val]) (fun a' c' => ⟨[], [], [], [eb.length, c'], [a']⟩) (by intros; kernel_rfl) (fun ids w2 hp hf => by rw [← hmb]; exact rbytes7_any m hw hc0 w2 (BX hf.x.1.1.1)) (by intros; kernel_rfl) (by kernel_rfl) (by kernel_rfl) (by intros; kernel_rfl) (fun _ _ => oneNil) ?_
  intro g1 h1 _ _
  refine node_PI ⟨[], [true], [], [], []⟩ (fun _ => #[.slice a1 eb.length c1, .slice g1 eb.length h1]) (.bool true) (by intros; kernel_rfl) (by intros; kernel_rfl) (by kernel_rfl) (by kernel_rfl) (by kernel_rfl) oneNil (fun ids w2 hp hf => by
    have := sameb_any a1 c1 eb g1 h1 eb w2 (frow_cells hf.x.1.1.2) (frow_cells hf.x.2) (by omega)
    rw [decide_eq_true rfl] at this
    exact this) ?_
  refine br_f (by kernel_rfl) ?_
  refine br_F (decide ((eb.length : Int) > 65536)) (by kernel_rfl) (decide_eq_false (by omega)) ?_
  have hd1 : ∀ k, c1 ≠ 0 → abk a1 = some k → w.heap.size ≤ k ∧ ¬ (B.and (frow a2 c2 eb)).F k := fun k h1 h2 => ⟨(hn1 k h1 h2).1, fun q => q.elim (fun q => (hn1 k h1 h2).2 (.inl q)) (fun q => (hn2 k q.1 q.2).2 (.inr ⟨h1, h2⟩))⟩
  refine holds_env (ρ' := ⟨m.ints ++ y.ints ++ [e0, e0, e0], [true, true, true], [], m.nats ++ y.nats ++ [eb.length, c1, eb.length, c2, eb.length, h1], m.adrs ++ y.adrs ++ [a1, a2, g1]⟩) (by kernel_rfl) ?_
  refine loop_i (CoI (B.and (frow a2 c2 eb)) eb.length a1 c1) (fun vs => eb.length - (vs.i.headD 0).toNat) (fun ids w2 hp hf => ⟨(B.and (frow a2 c2 eb)).and (frow a1 c1 eb), ⟨⟨⟨hf.x.1.1.1.1, hf.x.1.2⟩, hf.x.1.1.2⟩, fun j hj => hf.sep j (hj.elim (fun h => h.elim (fun q => .inl (.inl (.inl (.inl q)))) (fun q => .inl (.inr q))) (fun q => .inl (.inl (.inr q))))⟩, 0, eb, Nat.zero_le _, rfl, (by intros; kernel_rfl), rfl⟩) ?_
  rintro vs hx' hcnt2 ⟨k, d, hk, hd, rfl, rfl⟩
  by_cases hlt : k < eb.length
  · refine br_T (decide ((k : Int) < (eb.length : Int))) (by kernel_rfl) (decide_eq_true (by omega)) ?_
    have hwk : IntKind.i64.wrap ((k : Int) + 1) = ((k + 1 : Nat) : Int) := by rw [wrap_i64 (by omega)]; omega
    obtain ⟨z, hz⟩ : ∃ z, d[k]? = some z := ⟨_, List.getElem?_eq_getElem (by omega)⟩
    have hsm1 := hs1 (fun q => by rw [q] at hlt; exact absurd hlt (Nat.not_lt_zero _))
    have hnd : a1.isSome = true ∧ (0 : Int) ≤ k ∧ (k : Int) < eb.length := ⟨hsm1, by omega, by omega⟩
    refine need_k (a1.isSome = true ∧ (0 : Int) ≤ k ∧ (k : Int) < eb.length) (by kernel_rfl) hnd ?_
    refine node_ldk ⟨[z], [], [], [], []⟩ (fun _ => .pointer (some (((a1.getD ⟨0, 0, none⟩).add (k * 1)).add 0))) [.int .u8 z] (by intros; kernel_rfl) (by intros; kernel_rfl) (fun ids w2 hp hf => (b_elt (rw_cells hf.x.2) (i := k) hz).2 _ (fun e => e)) (by kernel_rfl) oneNil ?_
    refine need_k (a1.isSome = true ∧ (0 : Int) ≤ k ∧ (k : Int) < eb.length) (by kernel_rfl) hnd ?_
    refine node_stores (sz := 1) a1 d.length c1 (bcells d) [.int .u8 (ifn .xor .u8 z 255)] k 0 (.int .u8 (ifn .xor .u8 z 255)) (by kernel_rfl) (by intros; kernel_rfl) (by intros; kernel_rfl) rfl (by simp [Value.oneCell']) (by simp; omega) (by simp) (fun q h1 h2 hF => (hd1 q h1 h2).2 hF) (fun q h1 h2 => .inl (hd1 q h1 h2).1) rfl rfl (by kernel_rfl) ?_
    rw [frow_spl (by omega)]
    refine again_V ⟨[((k + 1 : Nat) : Int)], [], [], [], []⟩ rfl (fun ids => Eq.trans (b := ⟨[IntKind.i64.wrap ((k : Int) + 1)], [], [], [], []⟩) (by kernel_rfl) (by rw [hwk])) _ (fun w2 ids hf => ⟨hf.x, hf.sep⟩) ⟨⟨k + 1, _, by omega, ?_, rfl, rfl⟩, ?_⟩
    · rw [List.length_append, List.length_cons, List.length_take, List.length_drop]; omega
    · show eb.length - (((k + 1 : Nat) : Int)).toNat < eb.length - ((k : Int)).toNat
      omega
  refine br_F (decide ((k : Int) < (eb.length : Int))) (by kernel_rfl) (decide_eq_false (by omega)) ?_
  refine node_newi (V := id) (bs := eb) (fun ids => #[m.val]) (fun a' c' => ⟨[], [], [], [eb.length, c'], [a']⟩) (by intros; kernel_rfl) (fun ids w2 hp hf => by rw [← hmb]; exact rbytes7_any m hw hc0 w2 (BX hf.x.1.1)) (by intros; kernel_rfl) (by kernel_rfl) (by kernel_rfl) (by intros; kernel_rfl) (fun _ _ => oneNil) ?_
  intro g2 h2 _ _
  refine node_PI ⟨[], [true], [], [], []⟩ (fun _ => #[.slice a2 eb.length c2, .slice g2 eb.length h2]) (.bool true) (by intros; kernel_rfl) (by intros; kernel_rfl) (by kernel_rfl) (by kernel_rfl) (by kernel_rfl) oneNil (fun ids w2 hp hf => by
    have := sameb_any a2 c2 eb g2 h2 eb w2 (frow_cells hf.x.1.1.2) (frow_cells hf.x.2) (by omega)
    rw [decide_eq_true rfl] at this
    exact this) ?_
  exact pure_done (by intros; kernel_rfl)
theorem enc7_args (x : Dat) (w : World) (hx : x.In Try.prog w 37) : Calls Try.prog 4 #[.agg x.cells.toArray] w (PureAt w (.bool true)) := by
  obtain ⟨m, e, H, hw, hl⟩ := opn_ms hx
  rw [ms_arg e]
  exact enc7_walk m w H hw hl
end Go.Proofs.Ytadgaefmoobcoaa
