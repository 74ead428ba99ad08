/- Right promises. -/
import Derived.Test.YtlgpjjgkdpmidaaPrG
import Derived.Test.YtlgpjjgkdpmidaaPrN
namespace Go.Proofs.Ytlgpjjgkdpmidaa
open Go.ChangeShapes Go.WideShapes Go.ChangeAt Go.RowKit Go.Syn Go.Eng Go.MapKept
set_option linter.unusedVariables false
set_option linter.unusedSimpArgs false
set_option maxRecDepth 100000
def vsE : Int → List (Vo Vl) → Int
  | _, [] => 0
  | frm, x :: r => if x.s < frm ∨ x.s > 1099511627776 then 26 else if balB x.r x.n = false then 27 else if valE x.v ≠ 0 then valE x.v else vsE (x.s + 1) r
def chkVs (frm : Int) (vs : List (Vo Vl)) : Int := if vs.length > 64 then 26 else vsE frm vs
def proE (r n slot low : Int) (vs : List (Vo Vl)) : Int := if (1 ≤ slot ∧ slot ≤ 1099511627776) ∧ 0 ≤ low ∧ low ≤ 1099511627776 then if balB r n = true then chkVs slot vs else 27 else 26
def voC (x : Vo Pv) : List Value := [.int .i64 x.s, .int .i64 x.r, .int .i64 x.n, .int .i64 x.v.v.k, .slice x.v.a1 x.v.v.cs.length x.v.c1, .slice x.v.a2 x.v.v.ns.length x.v.c2]
def vocs (xs : List (Vo Pv)) : List Value := xs.flatMap voC
theorem voc_len (x : Vo Pv) : (voC x).length = 6 := rfl
def voX (a : Option Addr) (xs : List (Vo Pv)) : HX := (HX.cl a (vocs xs)).and (HX.all (xs.map fun x => x.v.hx))
def vlsOf (xs : List (Vo Pv)) : List (Vo Vl) := xs.map (Vo.map Pv.v)
section
variable {w : World} {a : Option Addr} {xs : List (Vo Pv)}
theorem voX_sep (h : (voX a xs).X w) : ∀ k, (voX a xs).F k → k < w.heap.size := fun k hk => by
  rcases hk with hk | ⟨y, hy, hk⟩
  · exact cl_sep h.1 k hk
  · obtain ⟨x, hx, rfl⟩ := List.mem_map.1 hy
    exact vlX_sep (h.2 _ hy) k hk
theorem voX_at (h : (voX a xs).X w) (hf : ∀ x ∈ xs, VlFit x.v.v) {x : Vo Pv} (hx : x ∈ xs) : VlAt w x.v.v x.v.a1 x.v.a2 := (hf x hx).at_ (h.2 _ (List.mem_map.2 ⟨x, hx, rfl⟩))
theorem vo_cells (h : (voX a xs).X w) {i : Nat} {x : Vo Pv} (hi : xs[i]? = some x) (us : List Value) (hu : us = voC x ∨ us = [.int .i64 x.s]) : a.isSome = true ∧ CellsAt w (.pointer (some (((a.getD ⟨0, 0, none⟩).add (i * 6)).add 0))) us (fun _ => False) := by
  obtain ⟨h1, h2⟩ := flat_part voc_len h.1 hi (o := 0) us (fun j u hj => by
    rw [Nat.zero_add]
    rcases hu with rfl | rfl
    · exact hj
    · cases j with
      | zero => exact hj
      | succ j => simp at hj) (by rcases hu with rfl | rfl <;> simp [voC])
  exact ⟨h1, h2 _ id⟩
def CvI (a : Option Addr) (xs : List (Vo Pv)) (f0 : Int) (vs : Vals) (hx : HX) (m : Nat) : Prop := ∃ (k : Nat) (f : Int), m = xs.length - k ∧ k ≤ xs.length ∧ -9223372036854775808 ≤ f ∧ vs = ⟨[f, (k : Int)], [], [], [], []⟩ ∧ vsE f (vlsOf (xs.drop k)) = vsE f0 (vlsOf xs) ∧ hx = voX a xs
theorem chkvs_any (cap : Nat) (f0 : Int) (w : World) (H : (voX a xs).X w) (hf : ∀ x ∈ xs, VlFit x.v.v) (h0 : -9223372036854775808 ≤ f0) : Calls Try.prog 59 #[.slice a xs.length cap, .int .i64 f0] w (PureAt w (.int .i64 (chkVs f0 (vlsOf xs)))) := by
  refine calls_at (tab_ok _) Try.func59 rfl tChkVs (ρ := ⟨[f0], [], [], [xs.length, cap], [a]⟩) (ids := []) (hx := voX a xs) rfl (Facts.initq rfl oneNil H (voX_sep H)) ?_
  have hl : (vlsOf xs).length = xs.length := List.length_map _
  refine br_D (p := (xs.length : Int) > 64) (by kernel_rfl) (fun h => pure_done fun _ => ?_) (fun h => ?_)
  · unfold chkVs; rw [if_pos (by omega)]; rfl
  have hc : chkVs f0 (vlsOf xs) = vsE f0 (vlsOf xs) := by unfold chkVs; rw [if_neg (by omega)]
  rw [hc]
  refine ⟨CvI a xs f0, fun ids w2 hp hf => ⟨_, xs.length, ⟨hf.x, hf.sep⟩, 0, f0, rfl, Nat.zero_le _, h0, rfl, by rw [List.drop_zero], rfl⟩, ?_⟩
  rintro vs hx' n hcnt ⟨k, f, rfl, hk, hf0, rfl, he, rfl⟩
  refine holds_env (ρ' := ⟨[f0, f, (k : Int)], [], [], [xs.length, cap], [a]⟩) rfl ?_
  refine br_D (p := (k : Int) < (xs.length : Int)) (by kernel_rfl) (fun hkl => ?_) (fun hkl => ?_)
  · have hkl : k < xs.length := by omega
    obtain ⟨x, hx⟩ : ∃ b, xs[k]? = some b := ⟨_, List.getElem?_eq_getElem hkl⟩
    have hd : xs.drop k = x :: xs.drop (k + 1) := by
      rw [List.drop_eq_getElem_cons hkl]
      rw [List.getElem?_eq_getElem hkl] at hx
      rw [Option.some.inj hx]
    have he2 : vsE f0 (vlsOf xs) = if x.s < f ∨ x.s > 1099511627776 then 26 else if balB x.r x.n = false then 27 else if valE x.v.v ≠ 0 then valE x.v.v else vsE (x.s + 1) (vlsOf (xs.drop (k + 1))) := by
      rw [← he, hd]; rfl
    obtain ⟨s1, q1⟩ := vo_cells H hx (voC x) (.inl rfl)
    refine need_k (a.isSome = true ∧ 0 ≤ (k : Int) ∧ (k : Int) < (xs.length : Int)) (by kernel_rfl) ⟨s1, by omega, by omega⟩ ?_
    refine node_ld0 (k := ⟨3, 0, 0, 2, 1⟩) ⟨[x.s, x.r, x.n, x.v.v.k], [], [], [x.v.v.cs.length, x.v.c1, x.v.v.ns.length, x.v.c2], [x.v.a1, x.v.a2]⟩ (.pointer (some (((a.getD ⟨0, 0, none⟩).add (k * 6)).add 0))) (voC x) (by intros; kernel_rfl) (by intros; kernel_rfl) q1 ⟨by kernel_rfl, oneNil⟩ (by kernel_rfl) oneNil ?_
    refine br_D (p := x.s < f) (by kernel_rfl) (fun h => pure_done fun _ => by rw [he2, if_pos (.inl h)]; rfl) (fun h1 => ?_)
    refine br_D (p := x.s > 1099511627776) (by kernel_rfl) (fun h => pure_done fun _ => by rw [he2, if_pos (.inr h)]; rfl) (fun h2 => ?_)
    rw [if_neg (by omega)] at he2
    refine node_PI ⟨[], [balB x.r x.n], [], [], []⟩ (fun _ => #[.agg #[.int .i64 x.r, .int .i64 x.n]]) (.bool (balB x.r x.n)) (by intros; kernel_rfl) (by intros; kernel_rfl) (by kernel_rfl) (by kernel_rfl) (by kernel_rfl) oneNil (fun ids w2 hp hf => valid_any x.r x.n w2) ?_
    refine br_B (!(balB x.r x.n)) (by kernel_rfl) (fun h => pure_done fun _ => by rw [he2, if_pos (by simpa using h)]; rfl) (fun h3 => ?_)
    rw [if_neg (by rw [show balB x.r x.n = true by simpa using h3]; decide)] at he2
    refine node_PI ⟨[valE x.v.v], [], [], [], []⟩ (fun _ => #[x.v.val]) (.int .i64 (valE x.v.v)) (by intros; kernel_rfl) (by intros; kernel_rfl) (by kernel_rfl) (by kernel_rfl) (by kernel_rfl) oneNil (fun ids w2 hp hf2 => vchk_any _ _ _ _ _ w2 (voX_at hf2.x hf (List.mem_of_getElem? hx))) ?_
    refine br_B (valE x.v.v != 0) (by kernel_rfl) (fun h => pure_done fun _ => by rw [he2, if_pos (by simpa using h)]; rfl) (fun h4 => ?_)
    rw [if_neg (by simpa using h4)] at he2
    have hwk : IntKind.i64.wrap ((k : Int) + 1) = ((k + 1 : Nat) : Int) := by rw [wrap_i64 (by omega)]; omega
    have hws : IntKind.i64.wrap (x.s + 1) = x.s + 1 := wrap_i64 (by omega)
    exact again_V ⟨[IntKind.i64.wrap (x.s + 1), IntKind.i64.wrap ((k : Int) + 1)], [], [], [], []⟩ rfl (by intros; kernel_rfl) _ (fun w2 ids hf => ⟨hf.x, hf.sep⟩) ⟨xs.length - (k + 1), by omega, k + 1, x.s + 1, rfl, by omega, by omega, by rw [hwk, hws], he2.symm, rfl⟩
  · refine pure_done fun _ => ?_
    rw [← he, List.drop_eq_nil_of_le (by omega)]; rfl
end
/-- A promise. -/
def proM (r n slot low : Int) (q : Value) : Value := .agg #[.int .i64 2, .int .i64 0, .int .i64 0, .int .i64 0, .int .i64 r, .int .i64 n, .int .i64 slot, .int .i64 low, .int .i64 0, .int .i64 0, .slice none 0 0, .slice none 0 0, q, .int .i64 0, .int .i64 0, .int .i64 0, .int .i64 0, .int .i64 0, .int .i64 0, .int .i64 0, .int .i64 0, .int .i64 0, .int .i64 0, .int .i64 0, .slice none 0 0]
def mgZ : Value := .agg #[.int .i64 0, .int .i64 0, .int .i64 0, .int .i64 0, .int .i64 0, .int .i64 0, .int .i64 0, .int .i64 0, .int .i64 0, .int .i64 0, .slice none 0 0, .slice none 0 0, .slice none 0 0, .int .i64 0, .int .i64 0, .int .i64 0, .int .i64 0, .int .i64 0, .int .i64 0, .int .i64 0, .int .i64 0, .int .i64 0, .int .i64 0, .int .i64 0, .slice none 0 0]
theorem mwithin_any (x lo hi : Int) (w : World) : Calls Try.prog 56 #[.int .i64 x, .int .i64 lo, .int .i64 hi] w (PureAt w (.bool (decide (lo ≤ x) && decide (x ≤ hi)))) := by
  refine calls_at (tab_ok _) Try.func56 rfl tWithin (ρ := ⟨[x, lo, hi], [], [], [], []⟩) (ids := []) rfl (Facts.initP rfl oneNil) ?_
  by_cases h : lo ≤ x
  · refine br_T (decide (lo ≤ x)) (by kernel_rfl) (decide_eq_true h) ?_
    rw [decide_eq_true h, Bool.true_and]
    exact pure_done (by intros; kernel_rfl)
  · refine br_F (decide (lo ≤ x)) (by kernel_rfl) (decide_eq_false h) ?_
    rw [decide_eq_false h, Bool.false_and]
    exact pure_done (by intros; kernel_rfl)
theorem mwithin_in {x lo hi : Int} (h : lo ≤ x ∧ x ≤ hi) (w : World) : Calls Try.prog 56 #[.int .i64 x, .int .i64 lo, .int .i64 hi] w (PureAt w (.bool true)) := by
  have := mwithin_any x lo hi w
  rw [decide_eq_true h.1, decide_eq_true h.2] at this
  exact this
theorem uses2_any (w : World) : Calls Try.prog 55 #[.int .i64 2] w (PureAt w (.int .i64 39)) := by
  refine calls_at (tab_ok _) Try.func55 rfl tUses2 (ρ := ⟨[], [], [], [], []⟩) (ids := []) rfl (Facts.initP rfl oneNil) (pure_done (by intros; kernel_rfl))
theorem bare2_any (r n slot low : Int) (a : Option Addr) (l c : Nat) (w : World) : Calls Try.prog 58 #[proM r n slot low (.slice a l c), .int .i64 39] w (PureAt w mgZ) := by
  refine calls_at (tab_ok _) Try.func58 rfl tBare2 (ρ := ⟨[r, n, slot, low], [], [], [l, c], [a]⟩) (ids := []) rfl (Facts.initP rfl oneNil) (pure_done (by intros; kernel_rfl))
theorem empty0_any (w : World) : Calls Try.prog 57 #[mgZ] w (PureAt w (.bool true)) := by
  refine calls_at (tab_ok _) Try.func57 rfl tEmpty0 (ρ := ⟨[], [], [], [], []⟩) (ids := []) rfl (Facts.initP rfl oneNil) ?_
  repeat' (first | exact pure_done (by intros; kernel_rfl) | refine br_t (by kernel_rfl) ?_ | refine br_f (by kernel_rfl) ?_)
theorem mchkP_any {a : Option Addr} {xs : List (Vo Pv)} (cap : Nat) (r n slot low : Int) (w : World) (H : (voX a xs).X w) (hf : ∀ x ∈ xs, VlFit x.v.v) : Calls Try.prog 39 #[proM r n slot low (.slice a xs.length cap)] w (PureAt w (.int .i64 (proE r n slot low (vlsOf xs)))) := by
  refine calls_at (tab_ok _) Try.func39 rfl tMChk2 (ρ := ⟨[r, n, slot, low], [], [], [xs.length, cap], [a]⟩) (ids := []) (hx := voX a xs) rfl (Facts.initq rfl oneNil H (voX_sep H)) ?_
  have bad : ∀ {m : Mem} {ρ : Env} {pre : List Nat} {hx : HX} {S : Stack}, ¬ ((1 ≤ slot ∧ slot ≤ 1099511627776) ∧ 0 ≤ low ∧ low ≤ 1099511627776) → (Tree.done (.lf (.int .i64 (.lit 26))) m).holds ⟨Try.prog, w, fun _ => False, PureAt w (.int .i64 (proE r n slot low (vlsOf xs)))⟩ ρ pre hx S := fun h => pure_done fun _ => by unfold proE; rw [if_neg h]; rfl
  refine node_PI ⟨[39], [], [], [], []⟩ (fun _ => #[.int .i64 2]) (.int .i64 39) (by intros; kernel_rfl) (by intros; kernel_rfl) (by kernel_rfl) (by kernel_rfl) (by kernel_rfl) oneNil (fun ids w2 hp hf => uses2_any w2) ?_
  refine ⟨fun vs hx => vs = ⟨[1], [], [], [], []⟩ ∧ hx = voX a xs, br_T true (by kernel_rfl) rfl (again_V ⟨[1], [], [], [], []⟩ rfl (by intros; kernel_rfl) _ (fun w2 ids hf => ⟨hf.x, hf.sep⟩) ⟨rfl, rfl⟩), ?_⟩
  rintro vs hx hcnt ⟨rfl, rfl⟩
  refine br_F false (by kernel_rfl) rfl ?_
  refine node_PI ⟨[], [true], [], [], []⟩ (fun _ => #[.int .i64 0, .int .i64 0, .int .i64 9]) (.bool true) (by intros; kernel_rfl) (by intros; kernel_rfl) (by kernel_rfl) (by kernel_rfl) (by kernel_rfl) oneNil (fun ids w2 hp hf => mwithin_in (by decide) w2) (br_F false (by kernel_rfl) rfl ?_)
  refine node_PI ⟨[], [true], [], [], []⟩ (fun _ => #[.int .i64 0, .int .i64 0, .int .i64 9]) (.bool true) (by intros; kernel_rfl) (by intros; kernel_rfl) (by kernel_rfl) (by kernel_rfl) (by kernel_rfl) oneNil (fun ids w2 hp hf => mwithin_in (by decide) w2) (br_F false (by kernel_rfl) rfl ?_)
  refine node_PI ⟨[], [true], [], [], []⟩ (fun _ => #[.int .i64 0, .int .i64 0, .int .i64 1099511627776]) (.bool true) (by intros; kernel_rfl) (by intros; kernel_rfl) (by kernel_rfl) (by kernel_rfl) (by kernel_rfl) oneNil (fun ids w2 hp hf => mwithin_in (by decide) w2) (br_F false (by kernel_rfl) rfl ?_)
  refine node_PI ⟨[0, 0, 0, 0, 0, 0, 0, 0, 0, 0, 0, 0, 0, 0, 0, 0, 0, 0, 0, 0, 0], [], [], [0, 0, 0, 0, 0, 0, 0, 0], [none, none, none, none]⟩ (fun _ => #[proM r n slot low (.slice a xs.length cap), .int .i64 39]) mgZ (by intros; kernel_rfl) (by intros; kernel_rfl) (by kernel_rfl) (by kernel_rfl) (by kernel_rfl) oneNil (fun ids w2 hp hf => bare2_any r n slot low a xs.length cap w2) ?_
  refine node_PI ⟨[], [true], [], [], []⟩ (fun _ => #[mgZ]) (.bool true) (by intros; kernel_rfl) (by intros; kernel_rfl) (by kernel_rfl) (by kernel_rfl) (by kernel_rfl) oneNil (fun ids w2 hp hf => empty0_any w2) ?_
  refine br_F false (by kernel_rfl) rfl ?_
  refine ⟨fun vs hx => vs = Vals.nil ∧ ((1 ≤ slot ∧ slot ≤ 1099511627776) ∧ 0 ≤ low ∧ low ≤ 1099511627776) ∧ hx = voX a xs, ?_, ?_⟩
  · refine br_T true (by kernel_rfl) rfl ?_
    refine node_PI ⟨[], [decide (1 ≤ slot) && decide (slot ≤ 1099511627776)], [], [], []⟩ (fun _ => #[.int .i64 slot, .int .i64 1, .int .i64 1099511627776]) (.bool (decide (1 ≤ slot) && decide (slot ≤ 1099511627776))) (by intros; kernel_rfl) (by intros; kernel_rfl) (by kernel_rfl) (by kernel_rfl) (by kernel_rfl) oneNil (fun ids w2 hp hf => mwithin_any slot 1 1099511627776 w2) ?_
    refine br_B (!(decide (1 ≤ slot) && decide (slot ≤ 1099511627776))) (by kernel_rfl) (fun h => bad fun q => ?_) (fun h1 => ?_)
    · rw [decide_eq_true q.1.1, decide_eq_true q.1.2] at h; cases h
    have h1 : 1 ≤ slot ∧ slot ≤ 1099511627776 := by simpa using h1
    refine node_PI ⟨[], [decide (0 ≤ low) && decide (low ≤ 1099511627776)], [], [], []⟩ (fun _ => #[.int .i64 low, .int .i64 0, .int .i64 1099511627776]) (.bool (decide (0 ≤ low) && decide (low ≤ 1099511627776))) (by intros; kernel_rfl) (by intros; kernel_rfl) (by kernel_rfl) (by kernel_rfl) (by kernel_rfl) oneNil (fun ids w2 hp hf => mwithin_any low 0 1099511627776 w2) ?_
    refine br_B (!(decide (0 ≤ low) && decide (low ≤ 1099511627776))) (by kernel_rfl) (fun h => bad fun q => ?_) (fun h2 => ?_)
    · rw [decide_eq_true q.2.1, decide_eq_true q.2.2] at h; cases h
    have h2 : 0 ≤ low ∧ low ≤ 1099511627776 := by simpa using h2
    refine node_PI ⟨[], [true], [], [], []⟩ (fun _ => #[.int .i64 0, .int .i64 0, .int .i64 1099511627776]) (.bool true) (by intros; kernel_rfl) (by intros; kernel_rfl) (by kernel_rfl) (by kernel_rfl) (by kernel_rfl) oneNil (fun ids w2 hp hf => mwithin_in (by decide) w2) (br_F false (by kernel_rfl) rfl ?_)
    exact again_V Vals.nil rfl (by intros; kernel_rfl) _ (fun w2 ids hf => ⟨hf.x, hf.sep⟩) ⟨rfl, ⟨h1, h2⟩, rfl⟩
  rintro vs hx hcnt2 ⟨rfl, hok, rfl⟩
  rw [Env.add_nil]
  have hp1 : proE r n slot low (vlsOf xs) = if balB r n = true then chkVs slot (vlsOf xs) else 27 := by unfold proE; rw [if_pos hok]
  rw [hp1]
  refine ⟨fun vs hx => vs = Vals.nil ∧ balB r n = true ∧ hx = voX a xs, ?_, ?_⟩
  · refine br_T true (by kernel_rfl) rfl ?_
    refine node_PI ⟨[], [balB r n], [], [], []⟩ (fun _ => #[.agg #[.int .i64 r, .int .i64 n]]) (.bool (balB r n)) (by intros; kernel_rfl) (by intros; kernel_rfl) (by kernel_rfl) (by kernel_rfl) (by kernel_rfl) oneNil (fun ids w2 hp hf => valid_any r n w2) ?_
    refine br_B (!(balB r n)) (by kernel_rfl) (fun h => pure_done fun _ => ?_) (fun h => ?_)
    · rw [if_neg (by rw [show balB r n = false by simpa using h]; decide)]; rfl
    · exact again_V Vals.nil rfl (by intros; kernel_rfl) _ (fun w2 ids hf => ⟨hf.x, hf.sep⟩) ⟨rfl, by simpa using h, rfl⟩
  rintro vs hx hcnt3 ⟨rfl, hb, rfl⟩
  rw [Env.add_nil, if_pos hb]
  refine br_F false (by kernel_rfl) rfl ?_
  refine br_T true (by kernel_rfl) rfl ?_
  refine node_PI ⟨[chkVs slot (vlsOf xs)], [], [], [], []⟩ (fun _ => #[.slice a xs.length cap, .int .i64 slot]) (.int .i64 (chkVs slot (vlsOf xs))) (by intros; kernel_rfl) (by intros; kernel_rfl) (by kernel_rfl) (by kernel_rfl) (by kernel_rfl) oneNil (fun ids w2 hp hf2 => chkvs_any cap slot w2 hf2.x hf (by omega)) ?_
  exact pure_done (by intros; kernel_rfl)
end Go.Proofs.Ytlgpjjgkdpmidaa
