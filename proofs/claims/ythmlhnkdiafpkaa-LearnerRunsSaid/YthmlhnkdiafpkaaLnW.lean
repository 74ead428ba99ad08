/- LearnerCounts. -/
import Derived.Test.YthmlhnkdiafpkaaLnH
import Derived.Test.YthmlhnkdiafpkaaLnP
namespace Go.Proofs.Ythmlhnkdiafpkaa
open Go.ChangeShapes Go.WideShapes Go.ChangeAt Go.RowKit Go.Syn Go.Eng Go.MapKept
set_option linter.unusedVariables false
set_option linter.unusedSimpArgs false
set_option maxRecDepth 100000
theorem and_rot (a b c d : HX) : ((a.and b).and c).and d = ((a.and c).and d).and b := by rw [HX.and_right_comm a b c, HX.and_right_comm (a.and c) b d]
def inRow (a : Option Addr) (cap : Nat) (xs : List Int) : HX := HX.rw 1 3 a xs.length cap (xs.map (Value.int .i64))
/-- A row of one's own, apart from the rest. -/
def OwnR (W : World) (rest : HX) (a : Option Addr) (cap : Nat) : Prop := ∀ k, cap ≠ 0 → abk a = some k → W.heap.size ≤ k ∧ ¬ rest.F k
def CoI (W : World) (base : HX) (nb : Nat) (ms ns : List Int) (v : Vl) (vs : Vals) (hx : HX) (n : Nat) : Prop := ∃ (k : Nat) (a : Option Addr) (cap : Nat) (F : Nat → Prop) (L : Ln), n = ns.length - k ∧ k ≤ ns.length ∧ vs = ⟨[(k : Int)], [enoughB ms (ns.take k)], [], [k, cap], [a]⟩ ∧ LnInv L ∧ CtI ms v (ns.take k) L ∧
  OwnR W base a cap ∧ OwnF W (fun _ => False) (base.and (inRow a cap (ns.take k))) F ∧ hx = (base.and (inRow a cap (ns.take k))).and (lnX F nb L)
set_option maxHeartbeats 1000000 in
theorem counts_walk (am : Option Addr) (cm : Nat) (ms : List Int) (an : Option Addr) (cn : Nat) (ns : List Int) (v : Vl) (a1 : Option Addr) (c1 : Nat) (a2 : Option Addr) (c2 : Nat) (w : World) (Hm : Ints w am ms) (sm : ms.length * 8 ≤ 140737488351232) (Hn : Ints w an ns) (sn : ns.length * 8 ≤ 140737488351232) (H : VlAt w v a1 a2) :
    Calls Try.prog 4 #[.slice am ms.length cm, .slice an ns.length cn, vlV v a1 c1 a2 c2] w (PureAt w (.bool true)) := by
  obtain ⟨B0, eB0⟩ : ∃ x, x = ((HX.ints am ms).and (HX.ints an ns)).and (vlX v a1 a2) := ⟨_, rfl⟩
  have B1 : ∀ {w}, B0.X w → Ints w am ms ∧ Ints w an ns ∧ (vlX v a1 a2).X w := fun h => by rw [eB0] at h; exact ⟨h.1.1, h.1.2, h.2⟩
  have Bs : ∀ k, B0.F k → k < w.heap.size := fun k hk => by
    rw [eB0] at hk
    rcases hk with (hk | hk) | hk
    · rw [hk.2]; exact (Hm.at_ (List.length_pos_iff.2 hk.1)).2.1
    · rw [hk.2]; exact (Hn.at_ (List.length_pos_iff.2 hk.1)).2.1
    · exact vlX_sep H.X k hk
  refine calls_at (tab_ok _) Try.func4 rfl tLCounts (ρ := ⟨[v.k], [], [], [ms.length, cm, ns.length, cn, v.cs.length, c1, v.ns.length, c2], [am, an, a1, a2]⟩) (ids := []) (hx := B0) rfl (Facts.initq rfl oneNil (by rw [eB0]; exact ⟨⟨Hm, Hn⟩, H.X⟩) Bs) ?_
  refine node_P ⟨[], [true], [], [], []⟩ #[] (.bool true) (by intros; kernel_rfl) (by intros; kernel_rfl) (by kernel_rfl) (by kernel_rfl) (by kernel_rfl) oneNil (fun ids w2 hp hf => head_any w2) ?_
  refine br_F false (by kernel_rfl) rfl ?_
  refine node_P ⟨[], [setOkB ms], [], [], []⟩ #[.slice am ms.length cm] (.bool (setOkB ms)) (by intros; kernel_rfl) (by intros; kernel_rfl) (by kernel_rfl) (by kernel_rfl) (by kernel_rfl) oneNil (fun ids w2 hp hf => refRight_any am cm ms w2 (B1 hf.x).1) ?_
  refine br_B (!(setOkB ms)) (by kernel_rfl) (fun h => pure_out (fun _ => id) (by intros; kernel_rfl)) (fun hS => ?_)
  have hS : setOkB ms = true := by simpa using hS
  have hml := (setOkB_iff.1 hS).2.1
  refine node_P ⟨[valE v], [], [], [], []⟩ #[vlV v a1 c1 a2 c2] (.int .i64 (valE v)) (by intros; kernel_rfl) (by intros; kernel_rfl) (by kernel_rfl) (by kernel_rfl) (by kernel_rfl) oneNil (fun ids w2 hp hf => rchk_any v a1 c1 a2 c2 w2 (H.fit.at_ (B1 hf.x).2.2)) ?_
  refine br_B (valE v != 0) (by kernel_rfl) (fun h => pure_out (fun _ => id) (by intros; kernel_rfl)) (fun hv => ?_)
  have hv : valE v = 0 := by simpa using hv
  refine node_clones (sz := 1) (xs := ms.map (Value.int .i64)) rfl Try.underlying26 info_int1 rfl (by decide) 1 rfl (fun _ => am) ms.length cm (by rw [List.length_map, Nat.mul_one]) (fun ids w2 hp hf => (B1 hf.x).1.cells) (fun x hx => by obtain ⟨n, _, rfl⟩ := List.mem_map.1 hx; rfl) (by unfold maxLen; omega) (by omega) (by intros; kernel_rfl) (by intros; kernel_rfl) (by intros; kernel_rfl) (by kernel_rfl) (by kernel_rfl) (by intros; kernel_rfl) ?_
  intro am' cm' hfr1
  obtain ⟨B2, eB2⟩ : ∃ x, x = B0.and (HX.rw 1 3 am' ms.length cm' (ms.map (Value.int .i64))) := ⟨_, rfl⟩
  have B3 : ∀ {w}, B2.X w → B0.X w := fun h => by rw [eB2] at h; exact h.1
  refine holds_eq eB2.symm ?_
  refine node_lnew (fun _ => am') cm' ms 5 (by intros; kernel_rfl) (fun ids w2 hp hf => ?_) ⟨hS, by omega, by omega⟩ (by intros; kernel_rfl) (by kernel_rfl) (by kernel_rfl) (by intros; kernel_rfl) ?_
  · have h2 := hf.x
    rw [eB2] at h2
    exact Ints.of_cells (by omega) Hm.fits (rw_cells h2.2)
  intro nb F hown
  refine ⟨CoI w B2 nb ms ns v, fun ids w2 hp hf => ⟨(B2.and (inRow (some ⟨idAt ids 2, 0, none⟩) 0 [])).and (lnX F nb (Ln.new ms 5)), _, ⟨⟨⟨hf.x.1, HX.rw_nil _ _ _ _⟩, hf.x.2⟩, fun k hk => hk.elim (fun q => q.elim (fun q => hf.sep k (.inl q)) fun q => absurd rfl q.1) fun q => hf.sep k (.inr q)⟩, 0, some ⟨idAt ids 2, 0, none⟩, 0, F, Ln.new ms 5, rfl, Nat.zero_le _, by rw [List.take_zero, enough_nil]; kernel_rfl, LnInv.new (setOkB_iff.1 hS) (by omega) (by omega), ct_new v, fun k h => absurd rfl h, fun k hk => ⟨fun q => q.elim (hown k hk).1 fun q => absurd rfl q.1, (hown k hk).2⟩, rfl⟩, ?_⟩
  rintro vs hx' n hcnt ⟨k, a, cap, F2, L, rfl, hkl, rfl, hinv, hct, hR, hF, rfl⟩
  obtain ⟨inn, einn⟩ : ∃ x, x = ns.take k := ⟨_, rfl⟩
  rw [← einn] at hct hF ⊢
  have hil : inn.length = k := by rw [einn, List.length_take]; omega
  have hif : ∀ x ∈ inn, I64 x := fun x hx => Hn.fits x (List.mem_of_mem_take (by rw [einn] at hx; exact hx))
  refine holds_env (ρ' := ⟨[v.k, valE v, (k : Int)], [true, setOkB ms, enoughB ms inn], [.pointer (some ⟨nb, 0, none⟩)], [ms.length, cm, ns.length, cn, v.cs.length, c1, v.ns.length, c2, ms.length, cm', k, cap], [am, an, a1, a2, am', a]⟩) rfl ?_
  refine br_D (p := (k : Int) < (ns.length : Int)) (by kernel_rfl) (fun hk => ?_) (fun hk => ?_)
  · have hk : k < ns.length := by omega
    obtain ⟨x, hx⟩ : ∃ b, ns[k]? = some b := ⟨_, List.getElem?_eq_getElem hk⟩
    obtain ⟨s1, q1⟩ := ints_at Hn hx
    refine need_k (an.isSome = true ∧ 0 ≤ (k : Int) ∧ (k : Int) < (ns.length : Int)) (by kernel_rfl) ⟨s1, by omega, by omega⟩ ?_
    refine node_ld0 (k := ⟨3, 3, 1, 12, 6⟩) ⟨[x], [], [], [], []⟩ (.pointer (some (((an.getD ⟨0, 0, none⟩).add (k * 1)).add 0))) [.int .i64 x] (by intros; kernel_rfl) (by intros; kernel_rfl) (q1 _ id) ⟨by kernel_rfl, (fun v hv => by simp only [List.mem_singleton] at hv; subst hv; rfl)⟩ (by kernel_rfl) oneNil ?_
    have hstep := ct_step (x := x) hv hct
    have htk : ns.take (k + 1) = inn ++ [x] := by rw [List.take_add_one, hx, einn]; rfl
    have hxI : I64 x := Hn.fits x (List.mem_of_getElem? hx)
    refine node_vl (V := id) (v := v) (fun _ => #[vlV v a1 c1 a2 c2]) (fun b1 d1 b2 d2 => ⟨[v.k], [], [], [v.cs.length, d1, v.ns.length, d2], [b1, b2]⟩) (by intros; kernel_rfl) (fun ids w2 hp hf => cpvl_any v a1 c1 a2 c2 w2 (H.fit.at_ (B1 (B3 hf.x.1.1)).2.2)) (by intros; kernel_rfl) (by kernel_rfl) (by kernel_rfl) (by intros; kernel_rfl) (fun _ _ _ _ => oneNil) ?_
    intro b1 d1 b2 d2 hfr
    refine holds_eq (HX.and_right_comm _ _ _) ?_
    have hF' : OwnF w (fun _ => False) ((B2.and (inRow a cap inn)).and (vlX v b1 b2)) F2 := fun k hk => ⟨fun q => q.elim (hF k hk).1 fun q => (hfr k q).2 (.inr hk), (hF k hk).2⟩
    refine node_P ⟨[5, 3, 1, v.k], [], [], [v.cs.length, d1, v.ns.length, d2], [b1, b2]⟩ #[.int .i64 5, .int .i64 3, vlV v b1 d1 b2 d2] (.agg #[.int .i64 5, .int .i64 3, .int .i64 1, .int .i64 v.k, .slice b1 v.cs.length d1, .slice b2 v.ns.length d2]) (by intros; kernel_rfl) (by intros; kernel_rfl) (by kernel_rfl) (by kernel_rfl) (by kernel_rfl) oneNil (fun ids w2 hp hf => vote_any 5 3 v b1 d1 b2 d2 w2) ?_
    refine node_voted x 5 3 1 v (fun _ => b1) d1 (fun _ => b2) d2 hF' hinv (by unfold I64; omega) (L.voted x 5 3 1 v).2 rfl (by intros; kernel_rfl) (fun ids w2 hp hf => ⟨H.fit.at_ hf.x.1.2, fun k hk => .inl (.inr hk)⟩) (by intros; kernel_rfl) (by kernel_rfl) (by kernel_rfl) (by kernel_rfl) ?_
    intro F3 hF3
    refine holds_eq (and_rot _ _ _ _) ?_
    have hrest : ∀ j, cap ≠ 0 → abk a = some j → ¬ ((B2.and (vlX v b1 b2)).and (lnX F3 nb (L.voted x 5 3 1 v).1)).F j := fun j q1 q2 q => by
      rcases q with (q | q) | q
      · exact (hR j q1 q2).2 q
      · exact (hfr j q).2 (.inl (.inr ⟨q1, q2⟩))
      · exact (hF3 j q).1 (.inl (.inr ⟨q1, q2⟩))
    have ecut : (inRow a cap inn) = HX.rw 1 3 a k cap (inn.map (Value.int .i64)) := by unfold inRow; rw [hil]
    refine holds_eq (congrArg _ ecut) ?_
    refine node_pushs (e := 3) (sz := 1) rfl Try.underlying26 info_int1 rfl (by decide) a k cap (inn.map (Value.int .i64)) [.int .i64 x] 3 (by intros; kernel_rfl) (by intros; kernel_rfl) rfl (by intros; kernel_rfl) rfl (fun v hv => by simp only [List.mem_singleton] at hv; subst hv; rfl) hrest (fun j q1 q2 => .inl (hR j q1 q2).1) (by unfold maxLen; omega) (by omega) (by intros; kernel_rfl) (by kernel_rfl) (by kernel_rfl) (by intros; kernel_rfl) ?_
    intro a' cap' hc' hr' hor'
    have ecut2 : HX.rw 1 3 a' (k + 1) cap' (inn.map (Value.int .i64) ++ [.int .i64 x]) = inRow a' cap' (inn ++ [x]) := by unfold inRow; rw [List.length_append, hil, List.map_append]; rfl
    refine holds_eq (congrArg _ ecut2) ?_
    have hR' : OwnR w B2 a' cap' := fun j q1 q2 => ⟨by
      rcases hor' with ⟨r1, r2⟩ | ⟨g, r1, r2, _⟩
      · exact (hR j r1 (by rw [← r2]; exact q2)).1
      · rw [r1] at q2; cases q2; exact r2, fun q => hr' j q2 (.inl (.inl q))⟩
    have hF4 : OwnF w (fun _ => False) (B2.and (inRow a' cap' (inn ++ [x]))) F3 := fun j hj => ⟨fun q => q.elim (fun q => (hF3 j hj).1 (.inl (.inl q))) fun q => hr' j q.2 (.inr hj), (hF3 j hj).2⟩
    refine node_PI ⟨[], [enoughB ms (inn ++ [x])], [], [], []⟩ (fun _ => #[.slice am ms.length cm, .slice a' (k + 1) cap']) (.bool (enoughB ms (inn ++ [x]))) (by intros; kernel_rfl) (by intros; kernel_rfl) (by kernel_rfl) (by kernel_rfl) (by kernel_rfl) oneNil (fun ids w2 hp hf => pure_same ?_) ?_
    · have := refEnough_any am cm ms a' cap' (inn ++ [x]) w2 (B1 (B3 hf.x.1.1.1)).1 (Ints.of_cells (by rw [List.length_append, hil]; simp only [List.length_cons, List.length_nil]; omega) (fun y hy => (List.mem_append.1 hy).elim (hif y) fun q => by rw [List.mem_singleton.1 q]; exact hxI) (rw_cells hf.x.2)) (by omega)
      rw [List.length_append, hil] at this
      exact this
    have hwk : IntKind.i64.wrap ((k : Int) + 1) = ((k + 1 : Nat) : Int) := by rw [wrap_i64 (by omega)]; omega
    have fin : ∀ {m : Mem} {ρ : Env} {es : Vec} (b : Bool), enoughB ms (inn ++ [x]) = b → (∀ ids, es.den ρ ids = ⟨[IntKind.i64.wrap ((k : Int) + 1)], [b], [], [k + 1, cap'], [a']⟩) → (Tree.again 9 es m).holds ⟨Try.prog, w, fun _ => False, PureAt w (.bool true)⟩ ρ [] (((B2.and (vlX v b1 b2)).and (lnX F3 nb (L.voted x 5 3 1 v).1)).and (inRow a' cap' (inn ++ [x]))) [(9, fun vs' hx'' => ∃ n', n' < ns.length - k ∧ CoI w B2 nb ms ns v vs' hx'' n')] := fun b hb hes =>
      again_V ⟨[IntKind.i64.wrap ((k : Int) + 1)], [b], [], [k + 1, cap'], [a']⟩ rfl hes ((B2.and (inRow a' cap' (inn ++ [x]))).and (lnX F3 nb (L.voted x 5 3 1 v).1)) (fun w2 ids hf => ⟨⟨⟨hf.x.1.1.1, hf.x.2⟩, hf.x.1.2⟩, fun j hj => hj.elim (fun q => q.elim (fun q => hf.sep j (.inl (.inl (.inl q)))) fun q => hf.sep j (.inr q)) fun q => hf.sep j (.inl (.inr q))⟩)
        ⟨ns.length - (k + 1), by omega, k + 1, a', cap', F3, _, rfl, by omega, by rw [hwk, htk, hb], hinv.voted, by rw [htk]; exact hstep.2, hR', by rw [htk]; exact hF4, by rw [htk]⟩
    have hgot := hstep.1
    refine br_B (enoughB ms (inn ++ [x])) (by kernel_rfl) (fun h => ?_) (fun h => ?_)
    · refine br_F (!((L.voted x 5 3 1 v).2 == !(enoughB ms inn))) (by kernel_rfl) (by rw [hgot, h]; cases enoughB ms inn <;> rfl) ?_
      exact fin true h (by intros; kernel_rfl)
    · refine br_F (L.voted x 5 3 1 v).2 (by kernel_rfl) (by rw [hgot, h]; rfl) ?_
      exact fin false h (by intros; kernel_rfl)
  · have hk : k = ns.length := by omega
    have hkn : L.known 5 = (if enoughB ms inn = true then v else vz, enoughB ms inn) := by
      obtain ⟨_, _, h3⟩ := hct
      unfold Ln.known
      split at h3
      · rename_i he; rw [h3, he]; rfl
      · rename_i he; rw [h3.1, Bool.eq_false_iff.2 he]; rfl
    by_cases he : enoughB ms inn = true
    · rw [he] at hkn ⊢
      refine node_known 5 hF v true hkn (by intros; kernel_rfl) (by intros; kernel_rfl) (by kernel_rfl) (by kernel_rfl) (by intros; kernel_rfl) ?_
      intro b1 d1 b2 d2 hfr hown2
      refine br_T true (by kernel_rfl) rfl ?_
      refine br_F false (by kernel_rfl) rfl ?_
      refine node_PI ⟨[], [true], [], [], []⟩ (fun _ => #[vlV v b1 d1 b2 d2, vlV v a1 c1 a2 c2]) (.bool true) (by intros; kernel_rfl) (by intros; kernel_rfl) (by kernel_rfl) (by kernel_rfl) (by kernel_rfl) oneNil (fun ids w2 hp hf => ?_) ?_
      · have := samev_any v b1 d1 b2 d2 v a1 c1 a2 c2 w2 (H.fit.at_ hf.x.1.2) (H.fit.at_ (B1 (B3 hf.x.1.1.1)).2.2)
        rw [vlSame_t rfl] at this; exact this
      exact pure_out (fun _ => id) (by intros; kernel_rfl)
    · have he : enoughB ms inn = false := Bool.eq_false_iff.2 he
      rw [he] at hkn ⊢
      refine node_known 5 hF vz false hkn (by intros; kernel_rfl) (by intros; kernel_rfl) (by kernel_rfl) (by kernel_rfl) (by intros; kernel_rfl) ?_
      intro b1 d1 b2 d2 hfr hown2
      refine br_T true (by kernel_rfl) rfl ?_
      refine br_T true (by kernel_rfl) rfl ?_
      exact pure_out (fun _ => id) (by intros; kernel_rfl)
theorem counts_args (am : Option Addr) (cm : Nat) (ms : List Int) (an : Option Addr) (cn : Nat) (ns : List Int) (x : Dat) (w : World) (Hm : Ints w am ms) (sm : ms.length * 8 ≤ 140737488351232) (Hn : Ints w an ns) (sn : ns.length * 8 ≤ 140737488351232) (hx : x.In Try.prog w 32) :
    Calls Try.prog 4 #[.slice am ms.length cm, .slice an ns.length cn, .agg x.cells.toArray] w (PureAt w (.bool true)) := by
  obtain ⟨v, a1, c1, a2, c2, e, H, _, _⟩ := opn_vl hx
  rw [vl_arg e]
  exact counts_walk am cm ms an cn ns v a1 c1 a2 c2 w Hm sm Hn sn H
end Go.Proofs.Ythmlhnkdiafpkaa
