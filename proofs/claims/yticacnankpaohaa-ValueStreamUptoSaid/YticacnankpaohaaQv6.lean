/- The reference of layer 6: values read, Decode. -/
import Derived.Test.YticacnankpaohaaQv5
import Derived.Test.YticacnankpaohaaEng28
namespace Go.Proofs.Yticacnankpaohaa
open Go.ChangeShapes Go.WideShapes Go.ChangeAt Go.RowKit Go.Syn Go.Eng
set_option linter.unusedVariables false
set_option linter.unusedSimpArgs false
set_option maxRecDepth 100000
def QtI1 (W : World) (a : Option Addr) (bs : List Int) (kd : Int) (n : Nat) (q : Nat × Int) (vs : Vals) (hx : HX) : Prop := ∃ (k : Nat) (al : Option Addr) (cl : Nat) (a1 : Option Addr) (c1 : Nat), k ≤ n ∧ (∀ j, c1 ≠ 0 → abk a1 = some j → W.heap.size ≤ j) ∧ AtP bs a al cl (itN (tcS bs) k q) ∧
  vs = ⟨[(k : Int), (itN (tcS bs) k q).2, kd], [], [], [(bs.drop (itN (tcS bs) k q).1).length, cl, k, c1, 0, 0], [al, a1, none]⟩ ∧ hx = HX.nil.and (crow a1 k c1 (csN bs k q))
def QtI2 (W : World) (a : Option Addr) (bs : List Int) (kd : Int) (n : Nat) (cs : List CmD) (a1 : Option Addr) (c1 : Nat) (m : Nat) (q : Nat × Int) (vs : Vals) (hx : HX) : Prop := ∃ (k : Nat) (al : Option Addr) (cl : Nat) (a2 : Option Addr) (c2 : Nat), k ≤ m ∧ (∀ j, c2 ≠ 0 → abk a2 = some j → W.heap.size ≤ j ∧ ¬ (HX.nil.and (crow a1 n c1 cs)).F j) ∧ AtP bs a al cl (itN (stC 9 bs) k q) ∧
  vs = ⟨[(k : Int), (itN (stC 9 bs) k q).2, kd], [], [], [(bs.drop (itN (stC 9 bs) k q).1).length, cl, n, c1, k, c2], [al, a1, a2]⟩ ∧ hx = (HX.nil.and (crow a1 n c1 cs)).and (nrow a2 k c2 (nsN bs k q))
/-- What the reference's reading of a value does. -/
def QTk (w : World) (a : Option Addr) (bs : List Int) (p : Nat × Int) (e : Ending) (w' : World) : Prop := ∃ al cl a1 c1 a2 c2, e = .returned (.tuple #[qR bs al cl (rdS bs p), vlV (rdV bs p) a1 c1 a2 c2]) ∧ AtP bs a al cl (rdS bs p) ∧ (vlX (rdV bs p) a1 a2).X w' ∧ (∀ k, (vlX (rdV bs p) a1 a2).F k → w.heap.size ≤ k) ∧ Below w.heap.size w w'
set_option maxHeartbeats 4000000 in
theorem qtake {w : World} {bs : List Int} {a a' : Option Addr} {c' : Nat} {p : Nat × Int} (H : Qb w a bs) (hA : AtP bs a a' c' p) : Calls Try.prog 39 #[qR bs a' c' p] w (QTk w a bs p) := by
  refine calls_at (tab_ok _) Try.func39 rfl tQTake2 (ρ := ⟨[p.2], [], [], [(bs.drop p.1).length, c'], [a']⟩) (ids := []) (hx := HX.nil) rfl (Facts.initP rfl oneNil) ?_
  obtain ⟨kd, ekd⟩ : ∃ x : Nat, x = vaC 2 bs p := ⟨_, rfl⟩
  obtain ⟨q1, eq1⟩ : ∃ x, x = stC 2 bs p := ⟨_, rfl⟩
  obtain ⟨n, en⟩ : ∃ x : Nat, x = vaC 8 bs q1 := ⟨_, rfl⟩
  obtain ⟨q2, eq2⟩ : ∃ x, x = stC 8 bs q1 := ⟨_, rfl⟩
  have hn8 : (n : Int) ≤ 8 := by rw [en]; exact vaC_le (by decide) _ _
  have i64 : ∀ {x : Int}, 0 ≤ x ∧ x ≤ 9 → I64 x := fun h => by unfold I64; omega
  refine node_q (bs := bs) (a := a) (p' := q1) (V := fun v => .tuple #[v, .int .i64 (kd : Int)]) #[qR bs a' c' p, .int .i64 2] (fun a2 c2 => ⟨[q1.2, (kd : Int)], [], [], [(bs.drop q1.1).length, c2], [a2]⟩) (by intros; kernel_rfl) (by intros; kernel_rfl) (by intros; kernel_rfl) (by intros; kernel_rfl) (fun _ _ => oneNil) (by intros; kernel_rfl) (fun ids w2 hp hf => by rw [ekd, eq1]; exact qcountP 2 (i64 (by omega)) (H.keep (facts_old (fun _ q => q) hf)) hA) ?_
  intro l1 d1 hA1
  refine node_q (bs := bs) (a := a) (p' := q2) (V := fun v => .tuple #[v, .int .i64 (n : Int)]) #[qR bs l1 d1 q1, .int .i64 8] (fun a2 c2 => ⟨[q2.2, (n : Int)], [], [], [(bs.drop q2.1).length, c2], [a2]⟩) (by intros; kernel_rfl) (by intros; kernel_rfl) (by intros; kernel_rfl) (by intros; kernel_rfl) (fun _ _ => oneNil) (by intros; kernel_rfl) (fun ids w2 hp hf => by rw [en, eq2]; exact qcountP 8 (i64 (by omega)) (H.keep (facts_old (fun _ q => q) hf)) hA1) ?_
  intro l2 d2 hA2
  refine loop_i (QtI1 w a bs kd n q2) (fun vs => n - (vs.i.headD 0).toNat) (fun ids w2 hp hf => ⟨HX.nil.and (crow none 0 0 []), ⟨⟨trivial, HX.rw_nil _ _ _ _⟩, fun b hb => hb.elim (fun h => h.elim) (fun h => absurd rfl h.1)⟩, 0, l2, d2, none, 0, Nat.zero_le _, fun j q => absurd rfl q, hA2, rfl, rfl⟩) ?_
  rintro vs hx' hcnt ⟨k, al, cl, a1, c1, hk, hfr, hAk, rfl, rfl⟩
  by_cases hlt : k < n
  · refine br_t (show decide ((k : Int) < (n : Int)) = true from decide_eq_true (by omega)) ?_
    have hwk : IntKind.i64.wrap ((k : Int) + 1) = ((k + 1 : Nat) : Int) := by rw [wrap_i64 (by omega)]; omega
    obtain ⟨qk, eqk⟩ : ∃ x, x = itN (tcS bs) k q2 := ⟨_, rfl⟩
    obtain ⟨qn, eqn⟩ : ∃ x, x = itN (tcS bs) (k + 1) q2 := ⟨_, rfl⟩
    have hqn : tcS bs qk = qn := by rw [eqn, eqk]; rfl
    obtain ⟨c, ec⟩ : ∃ c, c = tcC bs qk := ⟨_, rfl⟩
    have hcs := csN_step bs k q2
    obtain ⟨cs, ecs⟩ : ∃ x, x = csN bs k q2 := ⟨_, rfl⟩
    rw [← eqk, ← ec, ← ecs] at hcs
    rw [← eqk, ← ecs]
    rw [← eqk] at hAk
    refine node_q (bs := bs) (a := a) (p' := qn) (V := fun v => .tuple #[v, .agg c.cells.toArray]) #[qR bs al cl qk] (fun a2 c2 => ⟨qn.2 :: c.is, [], [], [(bs.drop qn.1).length, c2], [a2]⟩) (by intros; kernel_rfl) (by intros; kernel_rfl) (by intros; kernel_rfl) (by intros; kernel_rfl) (fun _ _ => oneNil) (by intros; kernel_rfl) (fun ids w2 hp hf => by rw [ec, ← hqn]; exact qtakecmd (H.keep (facts_old (fun _ q => q) hf)) hAk) ?_
    intro l3 d3 hA3
    refine node_pushs (sz := 8) (vs := c.cells) rfl Try.underlying22 info_cmd rfl (by decide) a1 k c1 (ccells cs) 6 (by intros; kernel_rfl) (by intros; kernel_rfl) rfl (by intros; kernel_rfl) rfl (cmd_one c) (fun j _ _ q => q.elim) (fun j h1 h2 => .inl (hfr j h1 h2)) (by unfold maxLen; omega) (by omega) (by intros; kernel_rfl) (by intros; kernel_rfl) (by intros; kernel_rfl) (by intros; kernel_rfl) ?_
    intro b1 e1 hd1 hf1 hor1
    rw [ccells_snoc, ← hcs]
    intro ids w2 hp hf
    refine ⟨_, ⟨hf.x, hf.sep⟩, _, rfl, ⟨k + 1, l3, d3, b1, e1, by omega, fun j _ h2 => or_fresh hfr hor1 j h2, by rw [← eqn]; exact hA3, ?_, rfl⟩, ?_⟩
    · rw [← eqn, ← hwk]; rfl
    · show n - (IntKind.i64.wrap ((k : Int) + 1)).toNat < n - ((k : Int)).toNat
      rw [hwk]; omega
  refine br_f (show decide ((k : Int) < (n : Int)) = false from decide_eq_false (by omega)) ?_
  obtain rfl : k = n := by omega
  obtain ⟨q3, eq3⟩ : ∃ x, x = itN (tcS bs) k q2 := ⟨_, rfl⟩
  obtain ⟨cs, ecs⟩ : ∃ x, x = csN bs k q2 := ⟨_, rfl⟩
  rw [← eq3, ← ecs]
  rw [← eq3] at hAk
  obtain ⟨m, em⟩ : ∃ x : Nat, x = vaC 7 bs q3 := ⟨_, rfl⟩
  obtain ⟨q4, eq4⟩ : ∃ x, x = stC 7 bs q3 := ⟨_, rfl⟩
  have hm7 : (m : Int) ≤ 7 := by rw [em]; exact vaC_le (by decide) _ _
  refine node_q (bs := bs) (a := a) (p' := q4) (V := fun v => .tuple #[v, .int .i64 (m : Int)]) #[qR bs al cl q3, .int .i64 7] (fun a2 c2 => ⟨[q4.2, (m : Int)], [], [], [(bs.drop q4.1).length, c2], [a2]⟩) (by intros; kernel_rfl) (by intros; kernel_rfl) (by intros; kernel_rfl) (by intros; kernel_rfl) (fun _ _ => oneNil) (by intros; kernel_rfl) (fun ids w2 hp hf => by rw [em, eq4]; exact qcountP 7 (i64 (by omega)) (H.keep (facts_old (fun _ q => q) hf)) hAk) ?_
  intro l4 d4 hA4
  refine loop_i (QtI2 w a bs kd k cs a1 c1 m q4) (fun vs => m - (vs.i.headD 0).toNat) (fun ids w2 hp hf => ⟨(HX.nil.and (crow a1 k c1 cs)).and (nrow none 0 0 []), ⟨⟨hf.x, HX.rw_nil _ _ _ _⟩, fun b hb => hb.elim (hf.sep b) (fun h => absurd rfl h.1)⟩, 0, l4, d4, none, 0, Nat.zero_le _, fun j q => absurd rfl q, hA4, rfl, rfl⟩) ?_
  rintro vs hx' hcnt2 ⟨k2, al2, cl2, a2, c2, hk2, hfr2, hAk2, rfl, rfl⟩
  by_cases hlt2 : k2 < m
  · refine br_t (show decide ((k2 : Int) < (m : Int)) = true from decide_eq_true (by omega)) ?_
    have hwk : IntKind.i64.wrap ((k2 : Int) + 1) = ((k2 + 1 : Nat) : Int) := by rw [wrap_i64 (by omega)]; omega
    obtain ⟨qk, eqk⟩ : ∃ x, x = itN (stC 9 bs) k2 q4 := ⟨_, rfl⟩
    obtain ⟨qn, eqn⟩ : ∃ x, x = itN (stC 9 bs) (k2 + 1) q4 := ⟨_, rfl⟩
    have hqn : stC 9 bs qk = qn := by rw [eqn, eqk]; rfl
    obtain ⟨c, ec⟩ : ∃ c : Nat, c = vaC 9 bs qk := ⟨_, rfl⟩
    have hns := nsN_step bs k2 q4
    obtain ⟨ns, ens⟩ : ∃ x, x = nsN bs k2 q4 := ⟨_, rfl⟩
    rw [← eqk, ← ec, ← ens] at hns
    rw [← eqk, ← ens]
    rw [← eqk] at hAk2
    refine node_q (bs := bs) (a := a) (p' := qn) (V := fun v => .tuple #[v, .int .i64 (c : Int)]) #[qR bs al2 cl2 qk, .int .i64 9] (fun a2 c2 => ⟨[qn.2, (c : Int)], [], [], [(bs.drop qn.1).length, c2], [a2]⟩) (by intros; kernel_rfl) (by intros; kernel_rfl) (by intros; kernel_rfl) (by intros; kernel_rfl) (fun _ _ => oneNil) (by intros; kernel_rfl) (fun ids w2 hp hf => by rw [ec, ← hqn]; exact qcountP 9 (i64 (by omega)) (H.keep (facts_old (fun _ q => q) hf)) hAk2) ?_
    intro l3 d3 hA3
    refine node_pushs (sz := 1) (vs := [.int .i64 (c : Int)]) rfl Try.underlying23 info_int1 rfl (by decide) a2 k2 c2 (ns.map (Value.int .i64)) 5 (by intros; kernel_rfl) (by intros; kernel_rfl) rfl (by intros; kernel_rfl) rfl (by simp [Value.oneCell']) (fun j h1 h2 => (hfr2 j h1 h2).2) (fun j h1 h2 => .inl (hfr2 j h1 h2).1) (by unfold maxLen; omega) (by omega) (by intros; kernel_rfl) (by intros; kernel_rfl) (by intros; kernel_rfl) (by intros; kernel_rfl) ?_
    intro b1 e1 hd1 hf1 hor1
    rw [ncells_snoc, ← hns]
    intro ids w2 hp hf
    refine ⟨_, ⟨hf.x, hf.sep⟩, _, rfl, ⟨k2 + 1, l3, d3, b1, e1, by omega, fun j h1 h2 => ⟨or_fresh (fun j h1 h2 => (hfr2 j h1 h2).1) hor1 j h2, hf1 j h2⟩, by rw [← eqn]; exact hA3, ?_, rfl⟩, ?_⟩
    · rw [← eqn, ← hwk]; rfl
    · show m - (IntKind.i64.wrap ((k2 : Int) + 1)).toNat < m - ((k2 : Int)).toNat
      rw [hwk]; omega
  refine br_f (show decide ((k2 : Int) < (m : Int)) = false from decide_eq_false (by omega)) ?_
  obtain rfl : k2 = m := by omega
  have hV : rdV bs p = ⟨(kd : Int), cs, nsN bs k2 q4⟩ := by
    rw [ekd, ecs, eq4, em, eq3, eq2, en, eq1]; rfl
  have hS : rdS bs p = itN (stC 9 bs) k2 q4 := by
    rw [eq4, em, eq3, eq2, en, eq1]; rfl
  have hcl : cs.length = k := by rw [ecs, csN_len]
  have hnl := nsN_len bs k2 q4
  unfold QTk
  rw [hV, hS]
  intro ids w2 hp hf
  refine ⟨al2, cl2, a1, c1, a2, c2, ?_, hAk2, ⟨?_, ?_⟩, ?_, hf.chg.below⟩
  · unfold vlV
    dsimp only
    rw [hcl, hnl]; rfl
  · exact rw_cells hf.x.1.2
  · exact rw_cells hf.x.2
  · intro j hj
    rcases hj with hj | hj
    · exact rw_fresh hf.x.1.2 hfr j hj
    · exact rw_fresh hf.x.2 (fun j h1 h2 => (hfr2 j h1 h2).1) j hj
theorem qdone {w : World} {bs : List Int} {a a' : Option Addr} {c' : Nat} {p : Nat × Int} (hA : AtP bs a a' c' p) : Calls Try.prog 40 #[qR bs a' c' p] w (PureAt w (qR bs a' c' (p.1, doneB bs.length p.1 p.2))) := by
  refine calls_at (tab_ok _) Try.func40 rfl tQDone (ρ := ⟨[p.2], [], [], [(bs.drop p.1).length, c'], [a']⟩) (ids := []) (hx := HX.nil) rfl (Facts.initP rfl oneNil) ?_
  have hl : (bs.drop p.1).length = bs.length - p.1 := List.length_drop
  by_cases h0 : p.2 = 0
  · refine br_t (show (p.2 == 0) = true by simp [h0]) ?_
    by_cases h1 : p.1 < bs.length
    · refine br_t (show decide (((bs.drop p.1).length : Int) > 0) = true by rw [hl]; exact decide_eq_true (by omega)) ?_
      rw [show doneB bs.length p.1 p.2 = 13 from if_pos ⟨h0, h1⟩]
      exact pure_done (by intros; kernel_rfl)
    · refine br_f (show decide (((bs.drop p.1).length : Int) > 0) = false by rw [hl]; exact decide_eq_false (by omega)) ?_
      rw [show doneB bs.length p.1 p.2 = p.2 from if_neg (fun q => h1 q.2)]
      exact pure_done (by intros; kernel_rfl)
  · refine br_f (show (p.2 == 0) = false by simpa using h0) ?_
    rw [show doneB bs.length p.1 p.2 = p.2 from if_neg (fun q => h0 q.1)]
    exact pure_done (by intros; kernel_rfl)
set_option maxHeartbeats 4000000 in
theorem qdecode {w : World} {bs : List Int} {a : Option Addr} {c : Nat} (H : Qb w a bs) (hc : bs.length ≤ c) : Calls Try.prog 19 #[.slice a bs.length c] w (VlNew w (fun v => .tuple #[v, .int .i64 (decE bs)]) (decV bs)) := by
  refine calls_at (tab_ok _) Try.func19 rfl tQDecode2 (ρ := ⟨[], [], [], [bs.length, c], [a]⟩) (ids := []) (hx := HX.nil) rfl (Facts.initP rfl oneNil) ?_
  obtain ⟨v, ev⟩ : ∃ x, x = rdV bs (0, 0) := ⟨_, rfl⟩
  obtain ⟨p, ep⟩ : ∃ x, x = rdS bs (0, 0) := ⟨_, rfl⟩
  obtain ⟨d, ed⟩ : ∃ x, x = doneB bs.length p.1 p.2 := ⟨_, rfl⟩
  have hfit : VlFit v := by rw [ev]; exact rdV_fit _ _
  have hE : decE bs = if d ≠ 0 then d else valE v := by rw [ed, ep, ev]; rfl
  refine node_out (fun _ => #[qR bs a c (0, 0)]) (fun vs hy => ∃ al cl a1 c1 a2 c2, AtP bs a al cl p ∧ vs = ⟨[p.2, v.k], [], [], [(bs.drop p.1).length, cl, v.cs.length, c1, v.ns.length, c2], [al, a1, a2]⟩ ∧ hy = vlX v a1 a2) (by intros; kernel_rfl) (fun ids w2 hp hf => ?_) (by intros; kernel_rfl) (by intros; kernel_rfl) ?_ ?_
  · refine (qtake (H.keep (facts_old (fun _ q => q) hf)) (AtP.start hc 0)).mono ?_
    rintro e w' ⟨al, cl, a1, c1, a2, c2, rfl, hA, hX, hge, hb⟩
    rw [← ev] at hX hge
    rw [← ep] at hA
    rw [← ep, ← ev]
    exact ⟨_, _, ⟨al, cl, a1, c1, a2, c2, hA, rfl, rfl⟩, rfl, hX, fun k hk => ⟨hge k hk, vlX_sep hX k hk⟩, hb⟩
  · rintro vs hy ⟨al, cl, a1, c1, a2, c2, _, rfl, rfl⟩
    exact ⟨by kernel_rfl, oneNil⟩
  rintro vs hy ⟨al, cl, a1, c1, a2, c2, hA, rfl, rfl⟩ hfr
  refine node_P ⟨[d], [], [], [(bs.drop p.1).length, cl], [al]⟩ #[qR bs al cl p] (qR bs al cl (p.1, d)) (by intros; kernel_rfl) (by intros; kernel_rfl) (by intros; kernel_rfl) (by intros; kernel_rfl) (by intros; kernel_rfl) oneNil (fun ids w2 hp hf => by rw [ed]; exact qdone hA) ?_
  by_cases h1 : d = 0
  · refine br_F (d != 0) (by kernel_rfl) (by simp [h1]) ?_
    refine node_P ⟨[valE v], [], [], [], []⟩ #[vlV v a1 c1 a2 c2] (.int .i64 (valE v)) (by intros; kernel_rfl) (by intros; kernel_rfl) (by intros; kernel_rfl) (by intros; kernel_rfl) (by intros; kernel_rfl) oneNil (fun ids w2 hp hf => rchk_any v a1 c1 a2 c2 w2 (hfit.at_ hf.x.2)) ?_
    rw [if_neg (fun q => q h1)] at hE
    by_cases h2 : valE v = 0
    · refine br_F (valE v != 0) (by kernel_rfl) (by simp [h2]) ?_
      have hD : decV bs = v := by unfold decV; rw [if_pos (hE.trans h2), ev]
      rw [hD, hE, h2]
      intro ids w2 hp hf
      exact ⟨a1, c1, a2, c2, by kernel_rfl, hf.x.2, fun k hk => (hfr k hk).1, hf.chg.below⟩
    · refine br_T (valE v != 0) (by kernel_rfl) (by simpa using h2) ?_
      have hD : decV bs = v0 := by unfold decV; rw [if_neg (by rw [hE]; exact h2)]
      rw [hD, hE]
      intro ids w2 hp hf
      exact ⟨none, 0, none, 0, by kernel_rfl, ⟨fun h => by simp [v0, ccells] at h, fun h => by simp [v0] at h⟩, fun k hk => hk.elim (fun q => absurd rfl q.1) (fun q => absurd rfl q.1), hf.chg.below⟩
  · refine br_T (d != 0) (by kernel_rfl) (by simpa using h1) ?_
    rw [if_pos h1] at hE
    have hD : decV bs = v0 := by unfold decV; rw [if_neg (by rw [hE]; exact h1)]
    rw [hD, hE]
    intro ids w2 hp hf
    exact ⟨none, 0, none, 0, by kernel_rfl, ⟨fun h => by simp [v0, ccells] at h, fun h => by simp [v0] at h⟩, fun k hk => hk.elim (fun q => absurd rfl q.1) (fun q => absurd rfl q.1), hf.chg.below⟩
end Go.Proofs.Yticacnankpaohaa
