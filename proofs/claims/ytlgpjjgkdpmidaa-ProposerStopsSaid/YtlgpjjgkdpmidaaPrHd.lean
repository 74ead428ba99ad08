/- The head of the laws of layer 16. -/
import Derived.Test.YtlgpjjgkdpmidaaPrI
import Derived.Test.YtlgpjjgkdpmidaaPrV1
import Derived.Test.YtlgpjjgkdpmidaaPrV2
namespace Go.Eng
open Go.RowKit Go.Syn
set_option linter.unusedVariables false
section
variable {C : Cfg} {ρ : Env} {pre : List Nat} {hx : HX} {L : Stack} {m m' : Mem} {args : List SV} {r : SV} {t : Tree}
/-- A pure call whose answer may name blocks of one's own. -/
theorem node_PJ {f : Nat} (vs : List Nat → Vals) (AS : List Nat → Array Value) (V : List Nat → Value) (hargs : ∀ ids, (args.map (SV.den ρ ids)).toArray = AS ids) (hr : ∀ ids, r.den (ρ.add (vs ids)) ids = V ids) (hhp : m'.hp = m.hp) (hfit : hpFits m.c m.hp.length m.hp = true) (hc : ∀ ids, (ρ.add (vs ids)).cnt = m'.c) (h1 : ∀ ids v, v ∈ (vs ids).v → v.oneCell' = true) (hcall : ∀ ids w, pre <+: ids → Facts C m ρ ids hx w → Calls C.P f (AS ids) w (PureAt w (V ids)))
    (h : ∀ ids, pre <+: ids → ids.length = m.hp.length → t.holds C (ρ.add (vs ids)) ids hx L) : (Tree.call f args m r m' t).holds C ρ pre hx L := by
  intro ids w hp hf
  rw [hargs]
  refine (hcall ids w hp hf).mono ?_
  rintro e w' ⟨rfl, hb⟩
  refine ⟨vs ids, ids, hx, by rw [hr], List.prefix_refl _, ?_, h ids hp hf.len⟩
  exact Facts.turn (row := none) hf ⟨hb.os, hb.tape, hb.output, hb.size, fun k hk _ => hb.block k hk⟩ (fun b e => by cases e) (hx.loc w w' hf.x fun k hk => hb.block k (hf.sep k hk).1) (fun k hk => .inl hk) hhp hfit (hc ids) (h1 ids)
theorem pure_out {P : Program} {W : World} {M : Nat → Prop} {v : SV} {m : Mem} {ρ : Env} {pre : List Nat} {hx : HX} {L : Stack} {V : Value} (hM : ∀ x, ¬ M x) (hv : ∀ ids, v.den ρ ids = V) : (Tree.done v m).holds ⟨P, W, M, PureAt W V⟩ ρ pre hx L := fun ids w2 hp hf =>
  ⟨by rw [hv], (show Chg (fun _ => False) W w2 from ⟨hf.chg.os, hf.chg.tape, hf.chg.output, hf.chg.size, fun k hk _ => hf.chg.block k hk (hM k)⟩).below⟩
end
end Go.Eng
namespace Go.Proofs.Ytlgpjjgkdpmidaa
open Go.ChangeShapes Go.WideShapes Go.ChangeAt Go.RowKit Go.Syn Go.Eng Go.MapKept
set_option linter.unusedVariables false
set_option linter.unusedSimpArgs false
set_option maxRecDepth 100000
theorem lpromise_any (r n frm low : Int) (a : Option Addr) (l c : Nat) (w : World) : Calls Try.prog 10 #[.agg #[.int .i64 r, .int .i64 n], .int .i64 frm, .int .i64 low, .slice a l c] w (PureAt w (proM r n frm low (.slice a l c))) := by
  refine calls_at (tab_ok _) Try.func10 rfl tPPromise (ρ := ⟨[r, n, frm, low], [], [], [l, c], [a]⟩) (ids := []) rfl (Facts.initP rfl oneNil) ?_
  exact pure_done (by intros; kernel_rfl)
theorem ints_blk {P : Program} {W w : World} {M : Nat → Prop} {R : Ending → World → Prop} {m : Mem} {ρ : Env} {ids : List Nat} {hx : HX} (hf : Facts ⟨P, W, M, R⟩ m ρ ids hx w) (n ty : Nat) (cs : List LV) (xs : List Int) (h : m.hp[n]? = some (ty, cs)) (hc : cellsDen ρ ids cs = xs.map (Value.int .i64)) (hl : xs.length ≤ 1000) (hx : ∀ x ∈ xs, I64 x) : Ints w (some ⟨idAt ids n, 0, none⟩) xs :=
  Ints.of_cells (by omega) hx (blk_cells (ty := ty) (by have := hf.blk n ty cs h; rw [hc] at this; exact this))
theorem mgC_len (r n : Int) (q : Int × Pv) : (mgC r n q).length = 25 := rfl
theorem mg_cells {w : World} {ma : Option Addr} {mc : Nat} {r n : Int} {mp : List (Int × Pv)} (h : (mrow ma mc r n mp).X w) {i : Nat} {q : Int × Pv} (hq : mp[i]? = some q) (o : Nat) (us : List Value) (hu : ∀ j u, us[j]? = some u → (mgC r n q)[o + j]? = some u) (h0 : us ≠ []) : ma.isSome = true ∧ CellsAt w (.pointer (some (((ma.getD ⟨0, 0, none⟩).add (i * 25)).add o))) us (fun _ => False) := by
  obtain ⟨h1, h2⟩ := flat_part (mgC_len r n) (rw_cells h) hq (o := o) us hu h0
  exact ⟨h1, h2 _ id⟩
theorem at1 {α : Type} {l : List α} {k : Nat} {y : α} (h : l[k]? = some y) : ∀ (j : Nat) (u : α), [y][j]? = some u → l[k + j]? = some u := fun j u hj => by
  cases j with
  | zero => simp only [List.getElem?_cons_zero, Option.some.injEq] at hj; rw [← hj]; exact h
  | succ j => simp at hj
theorem mp_get {mp : List (Int × Pv)} {ms : List (Int × Vl)} (h : mmap Pv.v mp = ms) {i : Nat} {s : Int} {v : Vl} (hi : ms[i]? = some (s, v)) : ∃ q, mp[i]? = some q ∧ q.1 = s ∧ q.2.v = v := by
  subst h
  unfold mmap at hi
  rw [List.getElem?_map] at hi
  cases hq : mp[i]? with
  | none => rw [hq] at hi; cases hi
  | some q =>
    rw [hq] at hi
    simp only [Option.map_some, Option.some.injEq, Prod.mk.injEq] at hi
    exact ⟨q, rfl, hi.1, hi.2⟩
theorem ok123 : setOkB [1, 2, 3] = true := by kernel_rfl
theorem i123 : ∀ x ∈ ([1, 2, 3] : List Int), I64 x := by unfold I64; decide
def stop1 : Vl := ⟨2, [], [1]⟩
theorem stop1_fit : VlFit stop1 := ⟨(by unfold stop1 I64; decide), by decide, by decide⟩
def hd0 : Pr Vl := (Pr.new 1 4 [1, 2, 3]).begin 1 1 5
def hd1 : Pr Vl := (hd0.promised 1 []).1
def hd2 : Pr Vl := (hd1.promised 2 [⟨7, 1, 1, stop1⟩]).1
def hd3 : Pr Vl := (hd2.goes Vl.k 4).1
theorem head_any (w : World) : Calls Try.prog 7 #[] w (PureAt w (.bool true)) := by
  refine calls_at (tab_ok _) Try.func7 rfl tPHead (ρ := ⟨[], [], [], [], []⟩) (ids := []) (hx := HX.nil) rfl (Facts.initP rfl oneNil) ?_
  refine node_pnew 1 4 (fun ids => some ⟨idAt ids 0, 0, none⟩) 3 [1, 2, 3] (by intros; kernel_rfl) (fun ids w2 hp hf => ints_blk hf 0 _ _ [1, 2, 3] rfl (by kernel_rfl) (by decide) i123) ⟨ok123, by kernel_rfl⟩ (by intros; kernel_rfl) (by kernel_rfl) (by kernel_rfl) (by intros; kernel_rfl) ?_
  intro nb F hown
  refine node_pnil (pt := 24) (et := 77) (some ⟨nb, 0, none⟩) ⟨[], [false], [], [], []⟩ Try.underlying24 (by intros; kernel_rfl) (by intros; kernel_rfl) (by intros; kernel_rfl) (by kernel_rfl) (by kernel_rfl) (by kernel_rfl) oneNil ?_
  refine br_F false (by kernel_rfl) rfl ?_
  refine node_pcamp 1 1 5 ⟨[1, 0, 0, 0, 1, 1, 5, 0, 0, 0, 0, 0, 0, 0, 0, 0, 0, 0, 0, 0, 0, 0], [], [], [0, 0, 0, 0, 0, 0, 0, 0], [none, none, none, none]⟩ hown ⟨by decide, by decide⟩ (by kernel_rfl) rfl (by decide) (by intros; kernel_rfl) (by intros; kernel_rfl) (by kernel_rfl) (by kernel_rfl) (by kernel_rfl) oneNil ?_
  intro F1 hown1
  refine node_PI ⟨[2, 0, 0, 0, 1, 1, 5, 0, 0, 0, 0, 0, 0, 0, 0, 0, 0, 0, 0, 0, 0], [], [], [0, 0, 0, 0, 0, 0, 0, 0], [none, none, none, none]⟩ (fun _ => #[.agg #[.int .i64 1, .int .i64 1], .int .i64 5, .int .i64 0, .slice none 0 0]) (proM 1 1 5 0 (.slice none 0 0)) (by intros; kernel_rfl) (by intros; kernel_rfl) (by kernel_rfl) (by kernel_rfl) (by kernel_rfl) oneNil (fun ids w2 hp hf => lpromise_any 1 1 5 0 none 0 0 w2) ?_
  refine node_pprom 1 0 [] (fun _ => none) 0 false hown1 (by kernel_rfl) (fun x hx => by cases hx) (by kernel_rfl) rfl (by kernel_rfl) (fun x hx => by cases hx) (by decide) ⟨by decide, by decide⟩ (fun p hp => by cases hp) ⟨by decide, by decide, by decide⟩ ⟨(fun x hx => by cases hx), by unfold I64; decide⟩ (by decide) (by intros; kernel_rfl) (fun ids w2 hp hf => ⟨⟨fun h => absurd h (by decide), fun x hx => by cases hx⟩, fun k hk => hk.elim (fun q => absurd rfl q.1) fun ⟨x, hx, _⟩ => by cases hx⟩) (by intros; kernel_rfl) (by kernel_rfl) (by kernel_rfl) (by kernel_rfl) ?_
  intro F2 hown2
  refine node_PJ (fun ids => ⟨[2, 0, 0, 0, 1, 1, 5, 4, 0, 0, 0, 0, 0, 0, 0, 0, 0, 0, 0, 0, 0], [], [], [0, 0, 0, 0, 1, 1, 0, 0], [none, none, some ⟨idAt ids 4, 0, none⟩, none]⟩) (fun ids => #[.agg #[.int .i64 1, .int .i64 1], .int .i64 5, .int .i64 4, .slice (some ⟨idAt ids 4, 0, none⟩) 1 1]) (fun ids => proM 1 1 5 4 (.slice (some ⟨idAt ids 4, 0, none⟩) 1 1)) (by intros; kernel_rfl) (by intros; kernel_rfl) (by kernel_rfl) (by kernel_rfl) (by intros; kernel_rfl) (fun _ => oneNil) (fun ids w2 hp hf => lpromise_any 1 1 5 4 _ 1 1 w2) ?_
  intro ids0 hp0 hl0
  have e1 : (hd0.promised 1 []).1 = hd1 := rfl
  refine node_pprom 2 4 [⟨7, 1, 1, ⟨stop1, none, 0, some ⟨idAt ids0 3, 0, none⟩, 1⟩⟩] (fun _ => some ⟨idAt ids0 4, 0, none⟩) 1 true hown2 (by kernel_rfl) (fun x hx => by rw [List.mem_singleton.1 hx]; exact stop1_fit) (by kernel_rfl) rfl (by kernel_rfl) (fun x hx => by rw [List.mem_singleton.1 hx]; exact (show (5 : Int) ≤ 7 ∧ (7 : Int) ≤ 5 + 63 by decide)) (by decide) ⟨by decide, by decide⟩ (fun p hp => by cases hp) ⟨by decide, by decide, by decide⟩ ⟨(fun x hx => by rw [List.mem_singleton.1 hx]; unfold I64; decide), by unfold I64; decide⟩ (by exact (show 1 ≤ 64 by decide)) (by intros; kernel_rfl) (fun ids w2 hp hf => ?_) (by intros; kernel_rfl) (by kernel_rfl) (by kernel_rfl) (by kernel_rfl) ?_
  · have i3 : idAt ids 3 = idAt ids0 3 := idAt_pre hp (by rw [hl0]; decide)
    have i4 : idAt ids 4 = idAt ids0 4 := idAt_pre hp (by rw [hl0]; decide)
    have b3 := blk_cells (hf.blk 3 _ _ rfl)
    have b4 := blk_cells (hf.blk 4 _ _ rfl)
    rw [i3] at b3
    rw [i4] at b4
    refine ⟨⟨(by rw [← i3]; exact b4), fun x hx => ?_⟩, fun k hk => .inr ?_⟩
    · rw [List.mem_singleton.1 hx]
      exact ⟨fun h => absurd (show (0 : Nat) < 0 from h) (Nat.lt_irrefl 0), b3⟩
    · rcases hk with hk | ⟨x, hx, hk⟩
      · rw [show k = idAt ids0 4 from hk.2, ← i4]
        exact idAt_mem (by rw [hf.len]; decide)
      · rw [List.mem_singleton.1 hx] at hk
        rcases hk with hk | hk
        · exact absurd rfl hk.1
        · rw [show k = idAt ids0 3 from hk.2, ← i3]
          exact idAt_mem (by rw [hf.len]; decide)
  intro F3 hown3
  refine holds_eq (hx' := HX.nil.and (prP F3 nb hd2)) rfl ?_
  have hown3 : OwnF w (fun _ => False) HX.nil F3 := hown3
  refine node_pgo 4 [(5, vz), (6, vz), (7, stop1)] hd3 hown3 (by kernel_rfl) (by unfold I64; decide) ⟨by decide, by decide⟩ ⟨by decide, by decide⟩ (by decide) (by intros; kernel_rfl) (by intros; kernel_rfl) (by kernel_rfl) (by kernel_rfl) (by intros; kernel_rfl) ?_
  intro mp ma mc F4 hmp hlen hfit hown4 hms
  obtain ⟨q1, g1, h1, _⟩ := mp_get hmp (i := 1) rfl
  obtain ⟨q1', g1', _, h1'⟩ := mp_get hmp (i := 1) rfl
  obtain ⟨q2, g2, _, h2⟩ := mp_get hmp (i := 2) rfl
  have : q1' = q1 := Option.some.inj (g1'.symm.trans g1)
  subst this
  have hne : mp ≠ [] := fun e => by rw [e] at hlen; cases hlen
  have hm := hms hne
  refine br_T true (by kernel_rfl) rfl ?_
  refine br_T true (by kernel_rfl) rfl ?_
  refine br_T true (by kernel_rfl) rfl ?_
  refine br_T true (by kernel_rfl) rfl ?_
  refine br_T true (by kernel_rfl) rfl ?_
  refine br_T true (by kernel_rfl) rfl ?_
  refine br_T true (by kernel_rfl) rfl ?_
  refine br_T true (by kernel_rfl) rfl ?_
  refine need_k (ma.isSome = true ∧ 0 ≤ (1 : Int) ∧ (1 : Int) < (3 : Int)) (by kernel_rfl) ⟨hm, by decide, by decide⟩ ?_
  refine node_ldk ⟨[6], [], [], [], []⟩ (fun _ => .pointer (some (((ma.getD ⟨0, 0, none⟩).add (1 * 25)).add 6))) [.int .i64 6] (by intros; kernel_rfl) (by intros; kernel_rfl) (fun ids w hp hf => (mg_cells hf.x.1.2 g1 6 _ (at1 (by rw [← h1]; rfl)) (by simp)).2) (by kernel_rfl) oneNil ?_
  refine br_T true (by kernel_rfl) rfl ?_
  refine need_k (ma.isSome = true ∧ 0 ≤ (1 : Int) ∧ (1 : Int) < (3 : Int)) (by kernel_rfl) ⟨hm, by decide, by decide⟩ ?_
  refine node_ldk ⟨[0], [], [], [], []⟩ (fun _ => .pointer (some (((ma.getD ⟨0, 0, none⟩).add (1 * 25)).add 9))) [.int .i64 0] (by intros; kernel_rfl) (by intros; kernel_rfl) (fun ids w hp hf => (mg_cells hf.x.1.2 g1 9 _ (at1 (by show some (Value.int .i64 q1'.2.v.k) = _; rw [h1']; rfl)) (by simp)).2) (by kernel_rfl) oneNil ?_
  refine br_T true (by kernel_rfl) rfl ?_
  refine need_k (ma.isSome = true ∧ 0 ≤ (2 : Int) ∧ (2 : Int) < (3 : Int)) (by kernel_rfl) ⟨hm, by decide, by decide⟩ ?_
  refine node_ldk ⟨[2], [], [], [], []⟩ (fun _ => .pointer (some (((ma.getD ⟨0, 0, none⟩).add (2 * 25)).add 9))) [.int .i64 2] (by intros; kernel_rfl) (by intros; kernel_rfl) (fun ids w hp hf => (mg_cells hf.x.1.2 g2 9 _ (at1 (by show some (Value.int .i64 q2.2.v.k) = _; rw [h2]; rfl)) (by simp)).2) (by kernel_rfl) oneNil ?_
  refine br_T true (by kernel_rfl) rfl ?_
  refine node_ptop 7 (by kernel_rfl) ⟨by decide, by decide⟩ (by intros; kernel_rfl) (by intros; kernel_rfl) (by kernel_rfl) (by kernel_rfl) (by kernel_rfl) ?_
  refine br_T true (by kernel_rfl) rfl ?_
  refine node_pstop true (by kernel_rfl) (by intros; kernel_rfl) (by intros; kernel_rfl) (by kernel_rfl) (by kernel_rfl) (by kernel_rfl) ?_
  exact pure_out (fun _ => id) (by intros; kernel_rfl)
end Go.Proofs.Ytlgpjjgkdpmidaa
