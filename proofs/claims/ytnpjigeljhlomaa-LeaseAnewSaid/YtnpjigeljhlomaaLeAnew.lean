/- The walk of LeaseAnew. -/
import Derived.Test.YtnpjigeljhlomaaLeRuns
namespace Go.Proofs.Ytnpjigeljhlomaa
open Go.ChangeShapes Go.WideShapes Go.ChangeAt Go.RowKit Go.Syn Go.Eng
set_option linter.unusedVariables false
set_option linter.unusedSimpArgs false
def stG (L s r n : Int) : GrD := ⟨L, s, r, n, true⟩
def offG (L s r n : Int) : GrD := ⟨L, s, r, n, false⟩
theorem ne0 {L s r n : Int} (h0 : 1 ≤ L) : ¬ ((stG L s r n).length = 0 ∨ (stG L s r n).stands = false) := by
  rintro (h | h)
  · have : L = 0 := h
    omega
  · cases h
theorem st_bars {L s r n t : Int} (h0 : 1 ≤ L) (h1 : s ≤ t) (h2 : t < s + L) (r' n' : Int) : barsV (stG L s r n) t = stG L s r n ∧ barsB (stG L s r n) r' n' t = !(decide (r = r') && decide (n = n')) := by
  have e1 : overV (stG L s r n) t = stG L s r n := if_neg (show ¬ t < s by omega)
  have e2 : overB (stG L s r n) t = false := by unfold overB; rw [e1]; exact decide_eq_false (show ¬ L ≤ t - s by omega)
  exact ⟨by unfold barsV; rw [if_neg (ne0 h0), e2, e1]; rfl, by unfold barsB; rw [if_neg (ne0 h0), e2]; rfl⟩
theorem ov_bars {L s r n t : Int} (h0 : 1 ≤ L) (h2 : s + L ≤ t) (r' n' : Int) : barsV (stG L s r n) t = offG L s r n ∧ barsB (stG L s r n) r' n' t = false := by
  have e1 : overV (stG L s r n) t = stG L s r n := if_neg (show ¬ t < s by omega)
  have e2 : overB (stG L s r n) t = true := by unfold overB; rw [e1]; exact decide_eq_true (show L ≤ t - s by omega)
  exact ⟨by unfold barsV; rw [if_neg (ne0 h0), e2, e1]; rfl, by unfold barsB; rw [if_neg (ne0 h0), e2]; rfl⟩
theorem off_bars {L s r n t : Int} (r' n' : Int) : barsV (offG L s r n) t = offG L s r n ∧ barsB (offG L s r n) r' n' t = false :=
  ⟨if_pos (.inr rfl), if_pos (.inr rfl)⟩
theorem grantB_of {g : GrD} {r n t : Int} (h : barsB g r n t = false) (h0 : g.length ≠ 0) (hb : balOk r n = true) : grantB g r n t = true := by
  unfold grantB; rw [h, hb, decide_eq_false h0]; rfl
theorem st_grant_no {L s r n t : Int} (h0 : 1 ≤ L) (h1 : s ≤ t) (h2 : t < s + L) {r' n' : Int} (h : ¬ (r = r' ∧ n = n')) : grantV (stG L s r n) r' n' t = stG L s r n ∧ grantB (stG L s r n) r' n' t = false := by
  obtain ⟨e1, e2⟩ := st_bars h0 h1 h2 (r := r) (n := n) r' n'
  have e3 : grantB (stG L s r n) r' n' t = false := by
    unfold grantB
    have : (decide (r = r') && decide (n = n')) = false := by simpa using h
    rw [e2, this]; rfl
  exact ⟨by unfold grantV; rw [e3, e1]; rfl, e3⟩
theorem st_grant_yes {L s r n t : Int} (h0 : 1 ≤ L) (h1 : s ≤ t) (h2 : t < s + L) (hb : balOk r n = true) : grantV (stG L s r n) r n t = stG L t r n ∧ grantB (stG L s r n) r n t = true := by
  obtain ⟨e1, e2⟩ := st_bars h0 h1 h2 (r := r) (n := n) r n
  have e3 : grantB (stG L s r n) r n t = true := grantB_of (by rw [e2]; simp) (show L ≠ 0 by omega) hb
  exact ⟨by unfold grantV; rw [e3]; rfl, e3⟩
theorem off_grant_yes {L s r n t r' n' : Int} (h0 : 1 ≤ L) (hb : balOk r' n' = true) : grantV (offG L s r n) r' n' t = stG L t r' n' ∧ grantB (offG L s r n) r' n' t = true := by
  have e3 : grantB (offG L s r n) r' n' t = true := grantB_of (off_bars r' n').2 (show L ≠ 0 by omega) hb
  exact ⟨by unfold grantV; rw [e3]; rfl, e3⟩
theorem bars_to {g g' : GrD} {B : Bool} {r n t : Int} (e : barsV g t = g' ∧ barsB g r n t = B) (hg : g.ok) (ht : I64 t) (w : World) (b : Nat) (h : Blk w b g.cells 61) : Calls Try.prog 12 #[.pointer (some ⟨b, 0, none⟩), .agg #[.int .i64 r, .int .i64 n], .int .i64 t] w (At1 w b 61 (.bool B) g'.cells) := by
  have := bars_any b g r n t w hg ht h
  rwa [e.1, e.2] at this
theorem grant_to {g g' : GrD} {B : Bool} {r n t : Int} (e : grantV g r n t = g' ∧ grantB g r n t = B) (hg : g.ok) (ht : I64 t) (w : World) (b : Nat) (h : Blk w b g.cells 61) : Calls Try.prog 14 #[.pointer (some ⟨b, 0, none⟩), .agg #[.int .i64 r, .int .i64 n], .int .i64 t] w (At1 w b 61 (.bool B) g'.cells) := by
  have := grant_any b g r n t w hg ht h
  rwa [e.1, e.2] at this
theorem arg3 {p q : Value} {x y : Int} (h : x = y) : (#[p, q, .int .i64 x] : Array Value) = #[p, q, .int .i64 y] := by rw [h]
theorem arg3b {p q : Value} {u v x y : Int} (g : u = v) (h : x = y) : (#[p, .agg #[q, .int .i64 u], .int .i64 x] : Array Value) = #[p, .agg #[q, .int .i64 v], .int .i64 y] := by rw [h, g]
def AnI (L now : Int) (vs : Vals) (hx : HX) : Prop := ∃ t : Int, 0 ≤ t ∧ t ≤ 2000 ∧ vs = ⟨[t, L, now, 0, 0], [true], [], [], []⟩ ∧ hx = HX.nil
def AnJ (L now r n : Int) (vs : Vals) (hx : HX) : Prop := ∃ (t : Int) (i : Nat), i ≤ 10 ∧ now ≤ t ∧ t ≤ now + 1024 + i * 64 ∧ vs = ⟨[t, (i : Int), L, t, r, n], [true], [], [], []⟩ ∧ hx = HX.nil
set_option maxHeartbeats 4000000 in
set_option maxRecDepth 100000 in
theorem anew_walk (len now step : Int) (r n : Int) (w : World) :
    Calls Try.prog 4 #[.int .i64 len, .int .i64 now, .int .i64 step, .agg #[.int .i64 r, .int .i64 n]] w (PureAt w (.bool true)) := by
  refine calls_at (tab_ok _) Try.func4 rfl tLAnew (ρ := ⟨[len, now, step, r, n], [], [], [], []⟩) (ids := []) rfl (Facts.initP rfl oneNil) ?_
  refine node_val ⟨[], [true], [], [], []⟩ (fun w => lhead_any w) (fun _ => rfl) (fun _ => rfl) rfl rfl rfl oneNil ?_
  refine br_f rfl ?_
  refine node_val ⟨[], [decide (now < -1152921504606846976) || decide (now > 1152921504606846976)], [], [], []⟩ (fun w => far_any now w) (fun _ => rfl) (fun _ => rfl) rfl rfl rfl oneNil ?_
  refine br_i (fun g => pure_done fun _ => rfl) (fun hfar => ?_)
  have hn : Near now := by
    simp only [SV.den, LV.den, IE.den, BE.den, NE.den, AE.den, compDen, cellsDen, ifn, cfn, Env.add, List.map_cons, List.map_nil, List.getD_cons_zero, List.getD_cons_succ, List.cons_append, List.nil_append, List.append_nil] at hfar
    simp at hfar
    exact ⟨by omega, by omega⟩
  obtain ⟨n0, n1⟩ := hn
  refine node_val ⟨[], [balOk r n], [], [], []⟩ (fun w => rVal_any r n w) (fun _ => rfl) (fun _ => rfl) rfl rfl rfl oneNil ?_
  refine br_i (fun g => pure_done fun _ => rfl) (fun hbal => ?_)
  have hb : balOk r n = true := by simpa [SV.den, LV.den, IE.den, BE.den, NE.den, AE.den, compDen, cellsDen, ifn, cfn, Env.add, List.map_cons, List.map_nil, List.getD_cons_zero, List.getD_cons_succ, List.cons_append, List.nil_append, List.append_nil] using hbal
  have hbb : 1 ≤ r ∧ r ≤ 1099511627776 ∧ 1 ≤ n ∧ n ≤ 9 := by
    simp [balOk] at hb; omega
  obtain ⟨l0, l1⟩ : 0 ≤ ifn .and .i64 len (1023 : Int) ∧ ifn .and .i64 len (1023 : Int) ≤ 1023 := and_small (x := len) (n := 1023) (by decide)
  obtain ⟨s0, s1⟩ : 0 ≤ ifn .and .i64 step (63 : Int) ∧ ifn .and .i64 step (63 : Int) ≤ 63 := and_small (x := step) (n := 63) (by decide)
  have hL0 : IntKind.i64.wrap (1 + ifn .and .i64 len (1023 : Int)) = 1 + ifn .and .i64 len (1023 : Int) := wrap_i64 (by omega)
  have hS0 : IntKind.i64.wrap (1 + ifn .and .i64 step (63 : Int)) = 1 + ifn .and .i64 step (63 : Int) := wrap_i64 (by omega)
  obtain ⟨L, hL⟩ : ∃ L, IntKind.i64.wrap (1 + ifn .and .i64 len (1023 : Int)) = L := ⟨_, rfl⟩
  obtain ⟨S, hS⟩ : ∃ S, IntKind.i64.wrap (1 + ifn .and .i64 step (63 : Int)) = S := ⟨_, rfl⟩
  have L0 : 1 ≤ L ∧ L ≤ 1024 := by omega
  have S0 : 1 ≤ S ∧ S ≤ 64 := by omega
  clear hL0 hS0 l0 l1 s0 s1
  have okL : ∀ s r n b, -1152921504606848976 ≤ s ∧ s ≤ 1152921504606850976 → (⟨L, s, r, n, b⟩ : GrD).ok := fun s r n b h => ⟨show 0 ≤ L by omega, show L ≤ 1048576 by omega, (⟨by omega, by omega⟩ : I64 s)⟩
  have inW : ∀ s, -1152921504606848976 ≤ s ∧ s ≤ 1152921504606850976 → I64 s := fun s h => ⟨by omega, by omega⟩
  refine node_newB 61 (us' := (stG L now 0 0).cells) ⟨(stG L now 0 0).vals, [true], [], [], []⟩ (fun w => by
    have := newGr_any L now true w
    have e : newGr L now true = stG L now 0 0 := by
      have : max 0 (min L 1048576) = L := by omega
      show (⟨_, _, _, _, _⟩ : GrD) = _
      rw [this]; rfl
    rwa [e] at this) (fun _ => by show (#[.int .i64 (IntKind.i64.wrap (1 + ifn .and .i64 len (1023 : Int))), .int .i64 now, .bool true] : Array Value) = _; rw [hL]) rfl (fun _ => rfl) rfl rfl rfl oneNil ?_
  refine loop_i (AnI L now) (fun vs => (3000 - vs.i.headD 0).toNat) (fun ids w hp hf => ⟨HX.nil, HXok.none _ _, 0, by omega, by omega, rfl, rfl⟩) ?_
  rintro vs hx' hcnt ⟨t, t0, t1, rfl, rfl⟩
  by_cases htL : t < L
  · refine br_t (show decide (t < IntKind.i64.wrap (1 + ifn .and .i64 len (1023 : Int))) = true by rw [hL]; simpa using htL) ?_
    have e : IntKind.i64.wrap (now + t) = now + t := wrap_i64 (by omega)
    refine node_at1 1 61 ⟨(stG L now 0 0).vals, [true, true], [], [], []⟩ (us := (stG L now 0 0).cells) (us' := (stG L now 0 0).cells) (V := .bool true) (bars_to (B := true) (r := r) (n := n) (t := now + t) ((st_bars L0.1 (by omega) (by omega) r n).imp_right fun q => q.trans (by simp; omega)) (okL _ _ _ _ (by omega)) (inW _ (by omega))) (fun _ => arg3 e) rfl (fun _ => rfl) rfl (fun _ => rfl) (fun _ => rfl) rfl rfl oneNil ?_
    refine br_f rfl ?_
    refine node_at1 1 61 ⟨(stG L now 0 0).vals, [true, false], [], [], []⟩ (us := (stG L now 0 0).cells) (us' := (stG L now 0 0).cells) (V := .bool false) (grant_to (r := r) (n := n) (t := now + t) (st_grant_no L0.1 (by omega) (by omega) (by omega)) (okL _ _ _ _ (by omega)) (inW _ (by omega))) (fun _ => arg3 e) rfl (fun _ => rfl) rfl (fun _ => rfl) (fun _ => rfl) rfl rfl oneNil ?_
    refine br_f rfl ?_
    intro ids w hp hf
    have e2 : IntKind.i64.wrap (t + S) = t + S := wrap_i64 (by omega)
    refine ⟨HX.nil, HXok.none _ _, _, rfl, ⟨t + S, by omega, by omega, ?_, rfl⟩, ?_⟩
    · show (⟨[IntKind.i64.wrap (t + IntKind.i64.wrap (1 + ifn .and .i64 step (63 : Int))), L, now, 0, 0], [true], [], [], []⟩ : Vals) = _
      rw [hS, e2]
    · show (3000 - IntKind.i64.wrap (t + IntKind.i64.wrap (1 + ifn .and .i64 step (63 : Int)))).toNat < (3000 - t).toNat
      rw [hS, e2]; omega
  · refine br_f (show decide (t < IntKind.i64.wrap (1 + ifn .and .i64 len (1023 : Int))) = false by rw [hL]; simpa using htL) ?_
    have e : IntKind.i64.wrap (now + IntKind.i64.wrap (1 + ifn .and .i64 len (1023 : Int))) = now + L := by rw [hL]; exact wrap_i64 (by omega)
    refine node_at1 1 61 ⟨(offG L now 0 0).vals, [false, false], [], [], []⟩ (us := (stG L now 0 0).cells) (us' := (offG L now 0 0).cells) (V := .bool false) (bars_to (r := r) (n := n) (t := now + L) (ov_bars L0.1 (by omega) r n) (okL _ _ _ _ (by omega)) (inW _ (by omega))) (fun _ => arg3 e) rfl (fun _ => rfl) rfl (fun _ => rfl) (fun _ => rfl) rfl rfl oneNil ?_
    refine br_f rfl ?_
    refine node_at1 1 61 ⟨(stG L (now + L) r n).vals, [true, true], [], [], []⟩ (us := (offG L now 0 0).cells) (us' := (stG L (now + L) r n).cells) (V := .bool true) (grant_to (r := r) (n := n) (t := now + L) (off_grant_yes L0.1 hb) (okL _ _ _ _ (by omega)) (inW _ (by omega))) (fun _ => arg3 e) rfl (fun _ => rfl) rfl (fun _ => rfl) (fun _ => rfl) rfl rfl oneNil ?_
    refine br_f rfl ?_
    refine loop_i (AnJ L now r n) (fun vs => (20 - (vs.i.getD 1 0)).toNat) (fun ids w hp hf => ⟨HX.nil, HXok.none _ _, now + L, 0, by omega, by omega, by omega, ?_, rfl⟩) ?_
    · show (⟨[IntKind.i64.wrap (now + IntKind.i64.wrap (1 + ifn .and .i64 len (1023 : Int))), 0, L, now + L, r, n], [true], [], [], []⟩ : Vals) = _
      rw [e]; rfl
    rintro vs hx' hcnt ⟨u, i, i0, u0, u1, rfl, rfl⟩
    have er : IntKind.i64.wrap (1 + Int.tmod n 9) = 1 + n % 9 := by
      have : Int.tmod n 9 = n % 9 := Int.tmod_eq_emod_of_nonneg (by omega)
      rw [this]; exact wrap_i64 (by omega)
    have hbr : balOk r (1 + n % 9) = true := by
      simp [balOk]; omega
    have hne : ¬ (n = 1 + n % 9) := by omega
    by_cases hi : i < 10
    · refine br_t (show decide ((i : Int) < 10) = true by simp; omega) ?_
      have em : IntKind.i64.wrap (u + min (IntKind.i64.wrap (1 + ifn .and .i64 step (63 : Int))) (IntKind.i64.wrap (IntKind.i64.wrap (1 + ifn .and .i64 len (1023 : Int)) - 1))) = u + min S (L - 1) := by
        rw [hL, hS, show IntKind.i64.wrap (L - 1) = L - 1 from wrap_i64 (by omega)]; exact wrap_i64 (by omega)
      refine node_at1 1 61 ⟨(stG L u r n).vals, [true, true], [], [], []⟩ (us := (stG L u r n).cells) (us' := (stG L u r n).cells) (V := .bool true) (bars_to (B := true) (r := r) (n := 1 + n % 9) (t := u + min S (L - 1)) ((st_bars L0.1 (by omega) (by omega) r (1 + n % 9)).imp_right fun q => q.trans (by simp [hne])) (okL _ _ _ _ (by omega)) (inW _ (by omega))) (fun _ => arg3b er em) rfl (fun _ => rfl) rfl (fun _ => rfl) (fun _ => rfl) rfl rfl oneNil ?_
      refine br_f rfl ?_
      refine node_at1 1 61 ⟨(stG L u r n).vals, [true, false], [], [], []⟩ (us := (stG L u r n).cells) (us' := (stG L u r n).cells) (V := .bool false) (grant_to (r := r) (n := 1 + n % 9) (t := u + min S (L - 1)) (st_grant_no L0.1 (by omega) (by omega) (fun q => hne q.2)) (okL _ _ _ _ (by omega)) (inW _ (by omega))) (fun _ => arg3b er em) rfl (fun _ => rfl) rfl (fun _ => rfl) (fun _ => rfl) rfl rfl oneNil ?_
      refine br_f rfl ?_
      refine node_at1 1 61 ⟨(stG L (u + min S (L - 1)) r n).vals, [true, true], [], [], []⟩ (us := (stG L u r n).cells) (us' := (stG L (u + min S (L - 1)) r n).cells) (V := .bool true) (grant_to (r := r) (n := n) (t := u + min S (L - 1)) (st_grant_yes L0.1 (by omega) (by omega) hb) (okL _ _ _ _ (by omega)) (inW _ (by omega))) (fun _ => arg3 em) rfl (fun _ => rfl) rfl (fun _ => rfl) (fun _ => rfl) rfl rfl oneNil ?_
      refine br_f rfl ?_
      intro ids w hp hf
      have e2 : IntKind.i64.wrap ((i : Int) + 1) = ((i + 1 : Nat) : Int) := by rw [wrap_i64 (by omega)]; omega
      refine ⟨HX.nil, HXok.none _ _, _, rfl, ⟨u + min S (L - 1), i + 1, by omega, by omega, by omega, ?_, rfl⟩, ?_⟩
      · show (⟨[IntKind.i64.wrap (u + min (IntKind.i64.wrap (1 + ifn .and .i64 step (63 : Int))) (IntKind.i64.wrap (IntKind.i64.wrap (1 + ifn .and .i64 len (1023 : Int)) - 1))), IntKind.i64.wrap ((i : Int) + 1), L, u + min S (L - 1), r, n], [true], [], [], []⟩ : Vals) = _
        rw [em, e2]
      · show (20 - IntKind.i64.wrap ((i : Int) + 1)).toNat < (20 - (i : Int)).toNat
        rw [e2]; omega
    · refine br_f (show decide ((i : Int) < 10) = false by simp; omega) ?_
      have em : IntKind.i64.wrap (u + IntKind.i64.wrap (1 + ifn .and .i64 len (1023 : Int))) = u + L := by
        rw [hL]; exact wrap_i64 (by omega)
      refine node_at1 1 61 ⟨(offG L u r n).vals, [false, false], [], [], []⟩ (us := (stG L u r n).cells) (us' := (offG L u r n).cells) (V := .bool false) (bars_to (r := r) (n := 1 + n % 9) (t := u + L) (ov_bars L0.1 (by omega) r (1 + n % 9)) (okL _ _ _ _ (by omega)) (inW _ (by omega))) (fun _ => arg3b er em) rfl (fun _ => rfl) rfl (fun _ => rfl) (fun _ => rfl) rfl rfl oneNil ?_
      refine br_t rfl ?_
      refine node_at1 1 61 ⟨(stG L (u + L) r (1 + n % 9)).vals, [true, true], [], [], []⟩ (us := (offG L u r n).cells) (us' := (stG L (u + L) r (1 + n % 9)).cells) (V := .bool true) (grant_to (r := r) (n := 1 + n % 9) (t := u + L) (off_grant_yes L0.1 hbr) (okL _ _ _ _ (by omega)) (inW _ (by omega))) (fun _ => arg3b er em) rfl (fun _ => rfl) rfl (fun _ => rfl) (fun _ => rfl) rfl rfl oneNil ?_
      refine br_t rfl ?_
      refine node_at1 1 61 ⟨(stG L (u + L) r (1 + n % 9)).vals, [true, true], [], [], []⟩ (us := (stG L (u + L) r (1 + n % 9)).cells) (us' := (stG L (u + L) r (1 + n % 9)).cells) (V := .bool true) (bars_to (B := true) (r := r) (n := n) (t := u + L) ((st_bars L0.1 (by omega) (by omega) r n).imp_right fun q => q.trans (by simp; omega)) (okL _ _ _ _ (by omega)) (inW _ (by omega))) (fun _ => arg3 em) rfl (fun _ => rfl) rfl (fun _ => rfl) (fun _ => rfl) rfl rfl oneNil ?_
      exact pure_done fun _ => rfl
theorem anew_args (len now step r n : Int) (w : World) (i1 : I64 len) (i2 : I64 now) (i3 : I64 step) (i4 : I64 r) (i5 : I64 n) :
    Calls Try.prog 4 #[.int .i64 len, .int .i64 now, .int .i64 step, .agg #[.int .i64 r, .int .i64 n]] w fun e w' => e = .returned (.bool true) ∧ Below w.heap.size w w' := anew_walk len now step r n w
end Go.Proofs.Ytnpjigeljhlomaa
