/- Part 19 of the texts of a proof about the given program: what the statement's proof needs of them. -/
import Derived.Test.YtbedoemdjlollaaKJudgeMerges18
namespace Go.Proofs.Ytbedoemdjlollaa
open Go.ChangeShapes Go.WideShapes Go.ChangeAt Go.RowKit Go.Syn Go.Eng
set_option linter.unusedVariables false
set_option linter.unusedSimpArgs false
set_option maxRecDepth 100000
theorem take_stepV {α : Type} {xs ys : List α} {k : Nat} {x y : α} (hx : xs[k]? = some x) (hy : ys[k]? = some y) (h : xs.take k = ys.take k) : xs.take (k + 1) = ys.take (k + 1) ↔ x = y := by
  rw [List.take_add_one, List.take_add_one, hx, hy, h]
  simp
theorem rchk_any (v : Vl) (a1 : Option Addr) (c1 : Nat) (a2 : Option Addr) (c2 : Nat) (w : World) (H : VlAt w v a1 a2) : Calls Try.prog 21 #[vlV v a1 c1 a2 c2] w (PureAt w (.int .i64 (valE v))) := by
  have hl1 := H.l1
  by_cases k0 : v.k = 0
  · unfold vlV
    rw [k0]
    refine calls_at (tab_ok _) Try.func21 rfl tRChk0 (ρ := ⟨[], [], [], [v.cs.length, c1, v.ns.length, c2], [a1, a2]⟩) (ids := []) rfl (Facts.initP rfl oneNil) ?_
    by_cases h1 : v.cs = []
    · refine br_f (show ((v.cs.length : Int) != 0) = false by rw [len_ne]; simpa using h1) ?_
      by_cases h2 : v.ns = []
      · refine br_f (show ((v.ns.length : Int) != 0) = false by rw [len_ne]; simpa using h2) ?_
        have hE : valE v = firstE v.cs := by unfold valE; rw [if_pos k0, if_neg (by simp [h1, h2]), h1]; rfl
        rw [hE]
        refine loop_i (ChI v) (fun vs => v.cs.length - (vs.i.headD 0).toNat) (fun ids w2 hp hf => ⟨HX.nil, HXok.none _ _, 0, by omega, rfl, rfl, rfl⟩) ?_
        rintro vs hx' hcnt ⟨k, hk1, he, rfl, rfl⟩
        by_cases hk : k < v.cs.length
        · refine br_t (show decide ((k : Int) < (v.cs.length : Int)) = true from decide_eq_true (by omega)) ?_
          obtain ⟨c, hc⟩ : ∃ b, v.cs[k]? = some b := ⟨_, List.getElem?_eq_getElem hk⟩
          obtain ⟨s1, c1⟩ := c_elt H.c hc
          refine need_i ⟨s1, (show (0 : Int) ≤ k by omega), (show (k : Int) < v.cs.length by omega)⟩ ?_
          refine ⟨⟨c.is, [], [], [], []⟩, fun ids => c1 _ (fun q => q), ⟨rfl, oneNil⟩, ?_⟩
          refine node_val ⟨[cmdV c], [], [], [], []⟩ (fun w => rcmd_any c w) (fun _ => rfl) (fun _ => rfl) rfl rfl rfl oneNil ?_
          have hfe := firstE_drop hc
          rw [he] at hfe
          by_cases hz : cmdV c = 0
          · refine br_f (show (cmdV c != 0) = false by simpa using hz) ?_
            rw [if_neg (by simpa using hz)] at hfe
            have hwk : IntKind.i64.wrap ((k : Int) + 1) = ((k + 1 : Nat) : Int) := by rw [wrap_i64 (by omega)]; omega
            intro ids w2 hp hf
            refine ⟨HX.nil, HXok.none _ _, _, rfl, ⟨k + 1, by omega, hfe.symm, by rw [← hwk]; rfl, rfl⟩, ?_⟩
            show v.cs.length - (IntKind.i64.wrap ((k : Int) + 1)).toNat < v.cs.length - ((k : Int)).toNat
            rw [hwk]; omega
          · refine br_t (show (cmdV c != 0) = true by simpa using hz) (pure_done fun _ => ?_)
            rw [if_pos hz] at hfe
            rw [hfe]; rfl
        · refine br_f (show decide ((k : Int) < (v.cs.length : Int)) = false from decide_eq_false (by omega)) (pure_done fun _ => ?_)
          rw [← he, List.drop_of_length_le (by omega)]; rfl
      · refine br_t (show ((v.ns.length : Int) != 0) = true by rw [len_ne]; simpa using h2) (pure_done fun _ => ?_)
        unfold valE; rw [if_pos k0, if_pos (.inr h2)]; rfl
    · refine br_t (show ((v.cs.length : Int) != 0) = true by rw [len_ne]; simpa using h1) (pure_done fun _ => ?_)
      unfold valE; rw [if_pos k0, if_pos (.inl h1)]; rfl
  by_cases k2 : v.k = 2
  · unfold vlV
    rw [k2]
    refine calls_at (tab_ok _) Try.func21 rfl tRChk2 (ρ := ⟨[], [], [], [v.cs.length, c1, v.ns.length, c2], [a1, a2]⟩) (ids := []) rfl (Facts.initP rfl oneNil) ?_
    by_cases h1 : v.cs = []
    · refine br_f (show ((v.cs.length : Int) != 0) = false by rw [len_ne]; simpa using h1) ?_
      refine node_pure ⟨[], [setOkB v.ns], [], [], []⟩ rfl rfl rfl oneNil (fun ids w2 hp hf => ?_) ?_
      · exact refRight_any a2 c2 v.ns w2 (H.n.ext hf.chg.below)
      have hE : valE v = if setOkB v.ns then 0 else 24 := by unfold valE checkV; rw [if_neg k0, if_pos k2, if_neg (by simpa using h1)]
      cases hs : setOkB v.ns with
      | false =>
        rw [hE, hs]
        exact br_t rfl (pure_done fun _ => rfl)
      | true =>
        refine br_f rfl ?_
        have hE2 : valE v = firstE v.cs := by rw [hE, hs, h1]; rfl
        rw [hE2]
        refine loop_i (ChI v) (fun vs => v.cs.length - (vs.i.headD 0).toNat) (fun ids w2 hp hf => ⟨HX.nil, HXok.none _ _, 0, by omega, rfl, rfl, rfl⟩) ?_
        rintro vs hx' hcnt ⟨k, hk1, he, rfl, rfl⟩
        by_cases hk : k < v.cs.length
        · refine br_t (show decide ((k : Int) < (v.cs.length : Int)) = true from decide_eq_true (by omega)) ?_
          obtain ⟨c, hc⟩ : ∃ b, v.cs[k]? = some b := ⟨_, List.getElem?_eq_getElem hk⟩
          obtain ⟨s1, c1⟩ := c_elt H.c hc
          refine need_i ⟨s1, (show (0 : Int) ≤ k by omega), (show (k : Int) < v.cs.length by omega)⟩ ?_
          refine ⟨⟨c.is, [], [], [], []⟩, fun ids => c1 _ (fun q => q), ⟨rfl, oneNil⟩, ?_⟩
          refine node_val ⟨[cmdV c], [], [], [], []⟩ (fun w => rcmd_any c w) (fun _ => rfl) (fun _ => rfl) rfl rfl rfl oneNil ?_
          have hfe := firstE_drop hc
          rw [he] at hfe
          by_cases hz : cmdV c = 0
          · refine br_f (show (cmdV c != 0) = false by simpa using hz) ?_
            rw [if_neg (by simpa using hz)] at hfe
            have hwk : IntKind.i64.wrap ((k : Int) + 1) = ((k + 1 : Nat) : Int) := by rw [wrap_i64 (by omega)]; omega
            intro ids w2 hp hf
            refine ⟨HX.nil, HXok.none _ _, _, rfl, ⟨k + 1, by omega, hfe.symm, by rw [← hwk]; rfl, rfl⟩, ?_⟩
            show v.cs.length - (IntKind.i64.wrap ((k : Int) + 1)).toNat < v.cs.length - ((k : Int)).toNat
            rw [hwk]; omega
          · refine br_t (show (cmdV c != 0) = true by simpa using hz) (pure_done fun _ => ?_)
            rw [if_pos hz] at hfe
            rw [hfe]; rfl
        · refine br_f (show decide ((k : Int) < (v.cs.length : Int)) = false from decide_eq_false (by omega)) (pure_done fun _ => ?_)
          rw [← he, List.drop_of_length_le (by omega)]; rfl
    · refine br_t (show ((v.cs.length : Int) != 0) = true by rw [len_ne]; simpa using h1) (pure_done fun _ => ?_)
      unfold valE; rw [if_neg k0, if_pos k2, if_pos h1]; rfl
  by_cases k1 : v.k = 1
  · unfold vlV
    rw [k1]
    refine calls_at (tab_ok _) Try.func21 rfl tRChk1 (ρ := ⟨[], [], [], [v.cs.length, c1, v.ns.length, c2], [a1, a2]⟩) (ids := []) rfl (Facts.initP rfl oneNil) ?_
    have val : ∀ (b : Prop), (v.cs = [] ∨ 8 < v.cs.length ∨ v.ns ≠ []) → valE v = 25 := fun _ h => by unfold valE; rw [if_neg k0, if_neg k2, if_pos k1, if_pos h]
    by_cases h3 : v.ns = []
    · refine br_f (show ((v.ns.length : Int) != 0) = false by rw [len_ne]; simpa using h3) ?_
      by_cases h1 : v.cs = []
      · refine br_t (show ((v.cs.length : Int) == 0) = true by rw [h1]; rfl) (pure_done fun _ => ?_)
        rw [val True (.inl h1)]; rfl
      refine br_f (show ((v.cs.length : Int) == 0) = false by have := List.length_pos_iff.2 h1; simp only [beq_eq_false_iff_ne]; omega) ?_
      by_cases h2 : 8 < v.cs.length
      · refine br_t (show decide ((v.cs.length : Int) > 8) = true from decide_eq_true (by omega)) (pure_done fun _ => ?_)
        rw [val True (.inr (.inl h2))]; rfl
      refine br_f (show decide ((v.cs.length : Int) > 8) = false from decide_eq_false (by omega)) ?_
      have hE : valE v = firstE v.cs := by unfold valE; rw [if_neg k0, if_neg k2, if_pos k1, if_neg (by simp [h1, h3]; omega)]
      rw [hE]
      refine loop_i (ChI v) (fun vs => v.cs.length - (vs.i.headD 0).toNat) (fun ids w2 hp hf => ⟨HX.nil, HXok.none _ _, 0, by omega, rfl, rfl, rfl⟩) ?_
      rintro vs hx' hcnt ⟨k, hk1, he, rfl, rfl⟩
      by_cases hk : k < v.cs.length
      · refine br_t (show decide ((k : Int) < (v.cs.length : Int)) = true from decide_eq_true (by omega)) ?_
        obtain ⟨c, hc⟩ : ∃ b, v.cs[k]? = some b := ⟨_, List.getElem?_eq_getElem hk⟩
        obtain ⟨s1, c1⟩ := c_elt H.c hc
        refine need_i ⟨s1, (show (0 : Int) ≤ k by omega), (show (k : Int) < v.cs.length by omega)⟩ ?_
        refine ⟨⟨c.is, [], [], [], []⟩, fun ids => c1 _ (fun q => q), ⟨rfl, oneNil⟩, ?_⟩
        refine node_val ⟨[cmdV c], [], [], [], []⟩ (fun w => rcmd_any c w) (fun _ => rfl) (fun _ => rfl) rfl rfl rfl oneNil ?_
        have hfe := firstE_drop hc
        rw [he] at hfe
        by_cases hz : cmdV c = 0
        · refine br_f (show (cmdV c != 0) = false by simpa using hz) ?_
          rw [if_neg (by simpa using hz)] at hfe
          have hwk : IntKind.i64.wrap ((k : Int) + 1) = ((k + 1 : Nat) : Int) := by rw [wrap_i64 (by omega)]; omega
          intro ids w2 hp hf
          refine ⟨HX.nil, HXok.none _ _, _, rfl, ⟨k + 1, by omega, hfe.symm, by rw [← hwk]; rfl, rfl⟩, ?_⟩
          show v.cs.length - (IntKind.i64.wrap ((k : Int) + 1)).toNat < v.cs.length - ((k : Int)).toNat
          rw [hwk]; omega
        · refine br_t (show (cmdV c != 0) = true by simpa using hz) (pure_done fun _ => ?_)
          rw [if_pos hz] at hfe
          rw [hfe]; rfl
      · refine br_f (show decide ((k : Int) < (v.cs.length : Int)) = false from decide_eq_false (by omega)) (pure_done fun _ => ?_)
        rw [← he, List.drop_of_length_le (by omega)]; rfl
    · refine br_t (show ((v.ns.length : Int) != 0) = true by rw [len_ne]; simpa using h3) (pure_done fun _ => ?_)
      rw [val True (.inr (.inr h3))]; rfl
  · refine calls_at (tab_ok _) Try.func21 rfl tRChk (ρ := ⟨[v.k], [], [], [v.cs.length, c1, v.ns.length, c2], [a1, a2]⟩) (ids := []) rfl (Facts.initP rfl oneNil) ?_
    have hE : valE v = 25 := by unfold valE; rw [if_neg k0, if_neg k2, if_neg k1]
    by_cases hn : v.k < 0
    · refine br_t (show decide (v.k < 0) = true from decide_eq_true hn) (pure_done fun _ => ?_)
      rw [hE]; rfl
    · refine br_f (show decide (v.k < 0) = false from decide_eq_false hn) ?_
      refine br_t (show decide (v.k > 2) = true from decide_eq_true (by omega)) (pure_done fun _ => ?_)
      rw [hE]; rfl
def ItI (xs ys : List Int) (vs : Vals) (hx : HX) : Prop := ∃ k : Nat, k ≤ xs.length ∧ xs.take k = ys.take k ∧ vs = ⟨[(k : Int)], [], [], [], []⟩ ∧ hx = HX.nil
theorem ints_at {w : World} {a : Option Addr} {xs : List Int} (h : Ints w a xs) {i : Nat} {x : Int} (hi : xs[i]? = some x) : a.isSome = true ∧ ∀ (N : Nat → Prop), ¬ N ((a.getD ⟨0, 0, none⟩).block) → CellsAt w (.pointer (some (((a.getD ⟨0, 0, none⟩).add (i * 1)).add 0))) [.int .i64 x] N := ints_elt h hi
theorem intsB_any (a : Option Addr) (cap : Nat) (xs : List Int) (a2 : Option Addr) (cap2 : Nat) (ys : List Int) (w : World) (H : Ints w a xs) (H2 : Ints w a2 ys) (hl : xs.length ≤ 140737488355328) : Calls Try.prog 37 #[.slice a xs.length cap, .slice a2 ys.length cap2] w (PureAt w (.bool (decide (xs = ys)))) := by
  refine calls_at (tab_ok _) Try.func37 rfl tInts (ρ := ⟨[], [], [], [xs.length, cap, ys.length, cap2], [a, a2]⟩) (ids := []) rfl (Facts.initP rfl oneNil) ?_
  by_cases hlen : xs.length = ys.length
  · refine br_f (show ((xs.length : Int) != (ys.length : Int)) = false by simp [hlen]) ?_
    refine loop_i (ItI xs ys) (fun vs => xs.length - (vs.i.headD 0).toNat) (fun ids w2 hp hf => ⟨HX.nil, HXok.none _ _, 0, by omega, rfl, rfl, rfl⟩) ?_
    rintro vs hx' hcnt ⟨k, hk1, he, rfl, rfl⟩
    by_cases hk : k < xs.length
    · refine br_t (show decide ((k : Int) < (xs.length : Int)) = true from decide_eq_true (by omega)) ?_
      obtain ⟨x, hx⟩ : ∃ b, xs[k]? = some b := ⟨_, List.getElem?_eq_getElem hk⟩
      obtain ⟨y, hy⟩ : ∃ b, ys[k]? = some b := ⟨_, List.getElem?_eq_getElem (by omega)⟩
      obtain ⟨s1, c1⟩ := ints_at H hx
      obtain ⟨s2, c2⟩ := ints_at H2 hy
      have hst := take_stepV hx hy he
      have hwk : IntKind.i64.wrap ((k : Int) + 1) = ((k + 1 : Nat) : Int) := by rw [wrap_i64 (by omega)]; omega
      refine need_i ⟨s1, (show (0 : Int) ≤ k by omega), (show (k : Int) < xs.length by omega)⟩ ?_
      refine need_i ⟨s2, (show (0 : Int) ≤ k by omega), (show (k : Int) < ys.length by omega)⟩ ?_
      by_cases hxy : x = y
      · have e1 := hst.2 hxy
        have fin : ∀ {es : Vec} {m : Mem} {ρ : Env} {L : Stack}, (∀ ids, es.den ρ ids = ⟨[IntKind.i64.wrap ((k : Int) + 1)], [], [], [], []⟩) → (Tree.again 4 es m).holds ⟨Try.prog, w, fun _ => False, PureAt w (.bool (decide (xs = ys)))⟩ ρ [] HX.nil ((4, fun vs' hx'' => ItI xs ys vs' hx'' ∧ xs.length - (vs'.i.headD 0).toNat < xs.length - ((⟨[(k : Int)], [], [], [], []⟩ : Vals).i.headD 0).toNat) :: L) := by
          intro es m ρ L hes ids w2 hp hf
          refine ⟨HX.nil, HXok.none _ _, _, rfl, ?_⟩
          rw [hes]
          refine ⟨⟨k + 1, by omega, e1, by rw [hwk], rfl⟩, ?_⟩
          show xs.length - (IntKind.i64.wrap ((k : Int) + 1)).toNat < xs.length - ((k : Int)).toNat
          rw [hwk]; omega
        refine par_i ?_ ?_
        · refine ⟨⟨[x], [], [], [], []⟩, fun ids => c1 _ (fun q => q), ⟨rfl, oneNil⟩, ?_⟩
          refine ⟨⟨[y], [], [], [], []⟩, fun ids => c2 _ (fun q => q), ⟨rfl, oneNil⟩, ?_⟩
          exact br_f (show (x != y) = false by simpa using hxy) (fin (fun _ => rfl))
        · refine ⟨⟨[y], [], [], [], []⟩, fun ids => c2 _ (fun q => q), ⟨rfl, oneNil⟩, ?_⟩
          refine ⟨⟨[x], [], [], [], []⟩, fun ids => c1 _ (fun q => q), ⟨rfl, oneNil⟩, ?_⟩
          exact br_f (show (x != y) = false by simpa using hxy) (fin (fun _ => rfl))
      · have hne : ¬ xs = ys := fun e => hxy (by rw [e] at hx; rw [hx] at hy; exact Option.some.inj hy)
        have fin : ∀ {m : Mem} {ρ : Env} {L : Stack} {hx : HX}, (Tree.done (.lf (.bool (.lit false))) m).holds ⟨Try.prog, w, fun _ => False, PureAt w (.bool (decide (xs = ys)))⟩ ρ [] hx L := pure_done fun _ => by rw [decide_eq_false hne]; rfl
        refine par_i ?_ ?_
        · refine ⟨⟨[x], [], [], [], []⟩, fun ids => c1 _ (fun q => q), ⟨rfl, oneNil⟩, ?_⟩
          refine ⟨⟨[y], [], [], [], []⟩, fun ids => c2 _ (fun q => q), ⟨rfl, oneNil⟩, ?_⟩
          exact br_t (show (x != y) = true by simpa using hxy) fin
        · refine ⟨⟨[y], [], [], [], []⟩, fun ids => c2 _ (fun q => q), ⟨rfl, oneNil⟩, ?_⟩
          refine ⟨⟨[x], [], [], [], []⟩, fun ids => c1 _ (fun q => q), ⟨rfl, oneNil⟩, ?_⟩
          exact br_t (show (x != y) = true by simpa using hxy) fin
    · refine br_f (show decide ((k : Int) < (xs.length : Int)) = false from decide_eq_false (by omega)) (pure_done fun _ => ?_)
      have e : xs = ys := by rw [List.take_of_length_le (by omega), List.take_of_length_le (by omega)] at he; exact he
      rw [decide_eq_true e]; rfl
  · refine br_t (show ((xs.length : Int) != (ys.length : Int)) = true by simp only [bne_iff_ne, ne_eq]; omega) (pure_done fun _ => ?_)
    rw [decide_eq_false (fun e => hlen (by rw [e]))]; rfl
def cmdEq (c d : CmD) : Bool := (c.sess == d.sess) && ((c.seq == d.seq) && ((c.ack == d.ack) && ((c.op.kind == d.op.kind) && ((c.op.reg == d.op.reg) && ((c.op.tg == d.op.tg) && ((c.op.re == d.op.re) && (c.op.im == d.op.im)))))))
theorem cmdEq_iff (c d : CmD) : cmdEq c d = true ↔ c = d := by
  obtain ⟨a1, a2, a3, ⟨a4, a5, a6, a7, a8⟩⟩ := c
  obtain ⟨b1, b2, b3, ⟨b4, b5, b6, b7, b8⟩⟩ := d
  simp [cmdEq]
def sameV6 (v u : Vl) : Prop := v.k = u.k ∧ v.cs = u.cs ∧ v.ns = u.ns
theorem same_ext {v u : Vl} : sameV6 v u ↔ v = u := by
  obtain ⟨a, b, c⟩ := v
  obtain ⟨d, e, f⟩ := u
  simp [sameV6]
open Classical in
noncomputable def vlSame (v u : Vl) : Bool := decide (v = u)
theorem vlSame_f {v u : Vl} (h : ¬ v = u) : vlSame v u = false := @decide_eq_false _ (Classical.propDecidable _) h
theorem vlSame_t {v u : Vl} (h : v = u) : vlSame v u = true := @decide_eq_true _ (Classical.propDecidable _) h
def SvI (v u : Vl) (vs : Vals) (hx : HX) : Prop := ∃ k : Nat, k ≤ v.cs.length ∧ v.cs.take k = u.cs.take k ∧ vs = ⟨[(k : Int)], [], [], [], []⟩ ∧ hx = HX.nil
theorem samev_any (v : Vl) (a1 : Option Addr) (c1 : Nat) (a2 : Option Addr) (c2 : Nat) (u : Vl) (b1 : Option Addr) (d1 : Nat) (b2 : Option Addr) (d2 : Nat) (w : World) (H : VlAt w v a1 a2) (H2 : VlAt w u b1 b2) : Calls Try.prog 22 #[vlV v a1 c1 a2 c2, vlV u b1 d1 b2 d2] w (PureAt w (.bool (vlSame v u))) := by
  have hl1 := H.l1
  have hl2 := H.l2
  have no : ∀ {v u : Vl}, ¬ v = u → vlSame v u = false := fun h => vlSame_f h
  have yes : ∀ {v u : Vl}, v = u → vlSame v u = true := fun h => vlSame_t h
  refine calls_at (tab_ok _) Try.func22 rfl tSameV (ρ := ⟨[v.k, u.k], [], [], [v.cs.length, c1, v.ns.length, c2, u.cs.length, d1, u.ns.length, d2], [a1, a2, b1, b2]⟩) (ids := []) rfl (Facts.initP rfl oneNil) ?_
  by_cases hk : v.k = u.k
  · refine br_f (show (v.k != u.k) = false by simpa using hk) ?_
    by_cases hlen : v.cs.length = u.cs.length
    · refine br_f (show ((v.cs.length : Int) != (u.cs.length : Int)) = false by simp [hlen]) ?_
      refine node_pure ⟨[], [decide (v.ns = u.ns)], [], [], []⟩ rfl rfl rfl oneNil (fun ids w2 hp hf => ?_) ?_
      · exact intsB_any a2 c2 v.ns b2 d2 u.ns w2 (H.n.ext hf.chg.below) (H2.n.ext hf.chg.below) (by omega)
      by_cases hns : v.ns = u.ns
      · refine br_f (show (!decide (v.ns = u.ns)) = false by simp [hns]) ?_
        refine loop_i (SvI v u) (fun vs => v.cs.length - (vs.i.headD 0).toNat) (fun ids w2 hp hf => ⟨HX.nil, HXok.none _ _, 0, by omega, rfl, rfl, rfl⟩) ?_
        rintro vs hx' hcnt ⟨k, hk1, he, rfl, rfl⟩
        by_cases hkl : k < v.cs.length
        · refine br_t (show decide ((k : Int) < (v.cs.length : Int)) = true from decide_eq_true (by omega)) ?_
          obtain ⟨x, hx⟩ : ∃ b, v.cs[k]? = some b := ⟨_, List.getElem?_eq_getElem hkl⟩
          obtain ⟨y, hy⟩ : ∃ b, u.cs[k]? = some b := ⟨_, List.getElem?_eq_getElem (by omega)⟩
          obtain ⟨s1, q1⟩ := c_elt H.c hx
          obtain ⟨s2, q2⟩ := c_elt H2.c hy
          have hst := take_stepV hx hy he
          have hwk : IntKind.i64.wrap ((k : Int) + 1) = ((k + 1 : Nat) : Int) := by rw [wrap_i64 (by omega)]; omega
          refine need_i ⟨s1, (show (0 : Int) ≤ k by omega), (show (k : Int) < v.cs.length by omega)⟩ ?_
          refine need_i ⟨s2, (show (0 : Int) ≤ k by omega), (show (k : Int) < u.cs.length by omega)⟩ ?_
          by_cases hxy : x = y
          · have e1 := hst.2 hxy
            have hce : (!cmdEq x y) = false := by rw [(cmdEq_iff x y).2 hxy]; rfl
            have fin : ∀ {es : Vec} {m : Mem} {ρ : Env} {L : Stack}, (∀ ids, es.den ρ ids = ⟨[IntKind.i64.wrap ((k : Int) + 1)], [], [], [], []⟩) → (Tree.again 4 es m).holds ⟨Try.prog, w, fun _ => False, PureAt w (.bool (vlSame v u))⟩ ρ [] HX.nil ((4, fun vs' hx'' => SvI v u vs' hx'' ∧ v.cs.length - (vs'.i.headD 0).toNat < v.cs.length - ((⟨[(k : Int)], [], [], [], []⟩ : Vals).i.headD 0).toNat) :: L) := by
              intro es m ρ L hes ids w2 hp hf
              refine ⟨HX.nil, HXok.none _ _, _, rfl, ?_⟩
              rw [hes]
              refine ⟨⟨k + 1, by omega, e1, by rw [hwk], rfl⟩, ?_⟩
              show v.cs.length - (IntKind.i64.wrap ((k : Int) + 1)).toNat < v.cs.length - ((k : Int)).toNat
              rw [hwk]; omega
            refine par_i ?_ ?_
            · refine ⟨⟨x.is, [], [], [], []⟩, fun ids => q1 _ (fun q => q), ⟨rfl, oneNil⟩, ?_⟩
              refine ⟨⟨y.is, [], [], [], []⟩, fun ids => q2 _ (fun q => q), ⟨rfl, oneNil⟩, ?_⟩
              exact br_f (Eq.trans (b := !cmdEq x y) (by kernel_rfl) hce) (fin (fun _ => rfl))
            · refine ⟨⟨y.is, [], [], [], []⟩, fun ids => q2 _ (fun q => q), ⟨rfl, oneNil⟩, ?_⟩
              refine ⟨⟨x.is, [], [], [], []⟩, fun ids => q1 _ (fun q => q), ⟨rfl, oneNil⟩, ?_⟩
              exact br_f (Eq.trans (b := !cmdEq x y) (by kernel_rfl) hce) (fin (fun _ => rfl))
          · have hce : (!cmdEq x y) = true := by
              have : cmdEq x y = false := by
                cases h : cmdEq x y with
                | false => rfl
                | true => exact absurd ((cmdEq_iff x y).1 h) hxy
              rw [this]; rfl
            have hne : ¬ v = u := fun e => hxy (by rw [e] at hx; rw [hx] at hy; exact Option.some.inj hy)
            have fin : ∀ {m : Mem} {ρ : Env} {L : Stack} {hx : HX}, (Tree.done (.lf (.bool (.lit false))) m).holds ⟨Try.prog, w, fun _ => False, PureAt w (.bool (vlSame v u))⟩ ρ [] hx L := pure_done fun _ => by rw [no hne]; rfl
            refine par_i ?_ ?_
            · refine ⟨⟨x.is, [], [], [], []⟩, fun ids => q1 _ (fun q => q), ⟨rfl, oneNil⟩, ?_⟩
              refine ⟨⟨y.is, [], [], [], []⟩, fun ids => q2 _ (fun q => q), ⟨rfl, oneNil⟩, ?_⟩
              exact br_t (Eq.trans (b := !cmdEq x y) (by kernel_rfl) hce) fin
            · refine ⟨⟨y.is, [], [], [], []⟩, fun ids => q2 _ (fun q => q), ⟨rfl, oneNil⟩, ?_⟩
              refine ⟨⟨x.is, [], [], [], []⟩, fun ids => q1 _ (fun q => q), ⟨rfl, oneNil⟩, ?_⟩
              exact br_t (Eq.trans (b := !cmdEq x y) (by kernel_rfl) hce) fin
        · refine br_f (show decide ((k : Int) < (v.cs.length : Int)) = false from decide_eq_false (by omega)) (pure_done fun _ => ?_)
          have e : v.cs = u.cs := by rw [List.take_of_length_le (by omega), List.take_of_length_le (by omega)] at he; exact he
          rw [yes (same_ext.1 ⟨hk, e, hns⟩)]; rfl
      · refine br_t (show (!decide (v.ns = u.ns)) = true by simp [hns]) (pure_done fun _ => ?_)
        rw [no (fun e => hns (by rw [e]))]; rfl
    · refine br_t (show ((v.cs.length : Int) != (u.cs.length : Int)) = true by simp only [bne_iff_ne, ne_eq]; omega) (pure_done fun _ => ?_)
      rw [no (fun e => hlen (by rw [e]))]; rfl
  · refine br_t (show (v.k != u.k) = true by simpa using hk) (pure_done fun _ => ?_)
    rw [no (fun e => hk (by rw [e]))]; rfl
theorem ccells_ne {cs : List CmD} (h : cs ≠ []) : ccells cs ≠ [] := fun q => by
  cases cs with
  | nil => exact h rfl
  | cons c r => simp [ccells, CmD.cells] at q
theorem info_cmd : (Try.prog.info? 43).map (fun i => (i.zero, i.size, i.bytes)) = some (some (.agg #[.int .i64 0, .int .i64 0, .int .i64 0, .int .i64 0, .int .i64 0, .int .i64 0, .int .i64 0, .int .i64 0]), 8, 64) := by kernel_rfl
theorem info_int1 : (Try.prog.info? 3).map (fun i => (i.zero, i.size, i.bytes)) = some (some (.int .i64 0), 1, 8) := by kernel_rfl
def crow (a : Option Addr) (n c : Nat) (cs : List CmD) : HX := HX.rw 8 43 a n c (ccells cs)
def nrow (a : Option Addr) (n c : Nat) (ns : List Int) : HX := HX.rw 1 3 a n c (ns.map (Value.int .i64))
theorem cmd_one (c : CmD) : ∀ v ∈ c.cells, v.oneCell' = true := fun v hv => by
  simp only [CmD.cells, List.mem_cons, List.not_mem_nil, or_false] at hv
  rcases hv with rfl | rfl | rfl | rfl | rfl | rfl | rfl | rfl <;> rfl
theorem rw_ltx {sz e n cap : Nat} {a : Option Addr} {xs : List Value} {w : World} (h : (HX.rw sz e a n cap xs).X w) {k : Nat} (h1 : cap ≠ 0) (h2 : abk a = some k) : k < w.heap.size := by
  obtain ⟨g, _, rfl, q, _⟩ := rw_open h h1
  cases h2; exact q
def vlX (v : Vl) (a1 a2 : Option Addr) : HX := (HX.cl a1 (ccells v.cs)).and (HX.cl a2 (v.ns.map (Value.int .i64)))
structure VlFit (v : Vl) : Prop where
  n : ∀ n ∈ v.ns, I64 n
  l1 : v.cs.length ≤ 2199023255552
  l2 : v.ns.length ≤ 17592186044416
theorem VlFit.at_ {v : Vl} (h : VlFit v) {a1 a2 : Option Addr} {w : World} (hX : (vlX v a1 a2).X w) : VlAt w v a1 a2 := ⟨hX.1, Ints.of_cells (by have := h.l2; omega) h.n hX.2, h.l1, h.l2⟩
theorem VlAt.X {v : Vl} {a1 a2 : Option Addr} {w : World} (H : VlAt w v a1 a2) : (vlX v a1 a2).X w := ⟨H.c, H.n.cells⟩
theorem VlAt.fit {v : Vl} {a1 a2 : Option Addr} {w : World} (H : VlAt w v a1 a2) : VlFit v := ⟨H.n.fits, H.l1, H.l2⟩
theorem vlX_sep {v : Vl} {a1 a2 : Option Addr} {w : World} (h : (vlX v a1 a2).X w) : ∀ k, (vlX v a1 a2).F k → k < w.heap.size := fun k hk => hk.elim (cl_sep h.1 k) (cl_sep h.2 k)
section
variable {C : Cfg} {ρ : Env} {pre : List Nat} {hx : HX} {L : Stack} {m m' : Mem} {args : List SV} {r : SV} {t : Tree}
end
theorem ccells_one (cs : List CmD) : ∀ v ∈ ccells cs, v.oneCell' = true := fun v hv => by
  obtain ⟨c, _, h⟩ := List.mem_flatMap.1 hv
  exact cmd_one c v h
theorem rw_fresh {b : Option Addr} {n d sz e : Nat} {cs : List Value} {w : World} {N : Nat} (hx : (HX.rw sz e b n d cs).X w) (hk : ∀ k, d ≠ 0 → abk b = some k → N ≤ k) : ∀ k, (HX.cl b cs).F k → N ≤ k := by
  rintro k ⟨hne, rfl⟩
  have hc : d ≠ 0 := fun q => by
    rcases hx with ⟨_, _, h3⟩ | ⟨h3, _⟩
    · exact hne h3
    · exact h3 q
  obtain ⟨g, _, rfl, _⟩ := rw_open hx hc
  exact hk g hc rfl
set_option maxRecDepth 100000 in
theorem tCpVal : (runF ⟨tt, fns, {}⟩ (Try.f23.body.getD .skip) Try.f23.results.toList (entry Try.f23.ntmps [.agg [.int .i64 (.var 0), .sl 0 (.var 0) (.var 1), .sl 1 (.var 2) (.var 3)]] [] ⟨1, 0, 0, 4, 2⟩)) =
  (.gen (.call ⟨(.builtin .append), #[(.tmp 8), (.tmp 10)], #[32, 32]⟩) 32 [(8, (.lf .nilsl)), (10, (.lf (tSl 0 0 1)))] ⟨[(35, [(tVi 0), (tSl 0 0 1), (tSl 1 2 3)]), (35, [(tLi 0), .nilsl, .nilsl]), (35, [(tVi 0), .nilsl, .nilsl])], ⟨1, 0, 0, 4, 2⟩⟩ (.some (.lf (tSl 2 4 5))) ⟨[(35, [(tVi 0), (tSl 0 0 1), (tSl 1 2 3)]), (35, [(tLi 0), .nilsl, .nilsl]), (35, [(tVi 0), .nilsl, .nilsl])], ⟨1, 0, 0, 6, 3⟩⟩ (.gen (.call ⟨(.builtin .append), #[(.tmp 14), (.tmp 16)], #[33, 33]⟩) 33 [(14, (.lf .nilsl)), (16, (.lf (tSl 1 2 3)))] ⟨[(35, [(tVi 0), (tSl 0 0 1), (tSl 1 2 3)]), (35, [(tLi 0), .nilsl, .nilsl]), (35, [(tVi 0), (tSl 2 4 5), .nilsl])], ⟨1, 0, 0, 6, 3⟩⟩ (.some (.lf (tSl 3 6 7))) ⟨[(35, [(tVi 0), (tSl 0 0 1), (tSl 1 2 3)]), (35, [(tLi 0), .nilsl, .nilsl]), (35, [(tVi 0), (tSl 2 4 5), .nilsl])], ⟨1, 0, 0, 8, 4⟩⟩ (.done (.agg [(tVi 0), (tSl 2 4 5), (tSl 3 6 7)]) ⟨[(35, [(tVi 0), (tSl 0 0 1), (tSl 1 2 3)]), (35, [(tVi 0), (tSl 2 4 5), (tSl 3 6 7)]), (35, [(tVi 0), (tSl 2 4 5), (tSl 3 6 7)])], ⟨1, 0, 0, 8, 4⟩⟩))) := by kernel_rfl
def cmDat (c : CmD) : Dat := .parts [.int .i64 c.sess, .int .i64 c.seq, .int .i64 c.ack, .parts [.int .i64 c.op.kind, .int .i64 c.op.reg, .int .i64 c.op.tg, .int .i64 c.op.re, .int .i64 c.op.im]]
def CmFit (c : CmD) : Prop := ∀ i ∈ c.is, I64 i
theorem opn_int {w : World} {d : Dat} (h : d.In Try.prog w 3) : ∃ k : Int, d = .int .i64 k ∧ I64 k := by
  obtain ⟨k, rfl, hk⟩ := in_int Try.underlying3 h
  exact ⟨k, rfl, I64.of_wf hk⟩
theorem opn_cmd {w : World} {d : Dat} (h : d.In Try.prog w 43) : ∃ c : CmD, d = cmDat c ∧ CmFit c := by
  obtain ⟨ds, rfl, g⟩ := in_struct Try.underlying43 h
  obtain ⟨d0, r0, rfl, h0, g0⟩ := inEach_cons g
  obtain ⟨d1, r1, rfl, h1, g1⟩ := inEach_cons g0
  obtain ⟨d2, r2, rfl, h2, g2⟩ := inEach_cons g1
  obtain ⟨d3, r3, rfl, h3, g3⟩ := inEach_cons g2
  obtain rfl := inEach_nil g3
  obtain ⟨es, rfl, f⟩ := in_struct Try.underlying41 h3
  obtain ⟨e0, s0, rfl, k0, f1⟩ := inEach_cons f
  obtain ⟨e1, s1, rfl, k1, f2⟩ := inEach_cons f1
  obtain ⟨e2, s2, rfl, k2, f3⟩ := inEach_cons f2
  obtain ⟨e3, s3, rfl, k3, f4⟩ := inEach_cons f3
  obtain ⟨e4, s4, rfl, k4, f5⟩ := inEach_cons f4
  obtain rfl := inEach_nil f5
  obtain ⟨x0, rfl, p0⟩ := opn_int h0
  obtain ⟨x1, rfl, p1⟩ := opn_int h1
  obtain ⟨x2, rfl, p2⟩ := opn_int h2
  obtain ⟨y0, rfl, q0⟩ := opn_int k0
  obtain ⟨y1, rfl, q1⟩ := opn_int k1
  obtain ⟨y2, rfl, q2⟩ := opn_int k2
  obtain ⟨y3, rfl, q3⟩ := opn_int k3
  obtain ⟨y4, rfl, q4⟩ := opn_int k4
  refine ⟨⟨x0, x1, x2, ⟨y0, y1, y2, y3, y4⟩⟩, rfl, fun i hi => ?_⟩
  simp only [CmD.is, List.mem_cons, List.not_mem_nil, or_false] at hi
  rcases hi with rfl | rfl | rfl | rfl | rfl | rfl | rfl | rfl <;> assumption
theorem dat_cells : ∀ cs : List CmD, Dat.cellsAll (cs.map cmDat) = ccells cs
  | [] => rfl
  | c :: r => by
    show Dat.cellsAll (cmDat c :: r.map cmDat) = c.cells ++ ccells r
    rw [← dat_cells r]; rfl
theorem dat_ints : ∀ ns : List Int, Dat.cellsAll (ns.map fun n => Dat.int .i64 n) = ns.map (Value.int .i64)
  | [] => rfl
  | n :: r => by rw [List.map_cons, List.map_cons, ← dat_ints r]; rfl
theorem bytes_cmd : Try.prog.bytesOf 43 = 64 := by kernel_rfl
theorem bytes_int : Try.prog.bytesOf 3 = 8 := by kernel_rfl
theorem reach_is : reachBytes ≤ 140737488355328 := by unfold reachBytes; decide
theorem opn_vl {w : World} {d : Dat} (h : d.In Try.prog w 35) : ∃ (v : Vl) (a1 : Option Addr) (c1 : Nat) (a2 : Option Addr) (c2 : Nat), d.cells = [.int .i64 v.k, .slice a1 v.cs.length c1, .slice a2 v.ns.length c2] ∧ VlAt w v a1 a2 ∧ I64 v.k ∧ ∀ c ∈ v.cs, CmFit c := by
  obtain ⟨ds, rfl, g⟩ := in_struct Try.underlying35 h
  obtain ⟨d0, r0, rfl, h0, g0⟩ := inEach_cons g
  obtain ⟨d1, r1, rfl, h1, g1⟩ := inEach_cons g0
  obtain ⟨d2, r2, rfl, h2, g2⟩ := inEach_cons g1
  obtain rfl := inEach_nil g2
  obtain ⟨k, rfl, hk⟩ := opn_int h0
  obtain ⟨a1, c1, ds1, rfl, l1, m1, b1, C1, I1⟩ := in_slice Try.underlying32 h1
  obtain ⟨a2, c2, ds2, rfl, l2, m2, b2, C2, I2⟩ := in_slice Try.underlying33 h2
  obtain ⟨cs, rfl, hcs⟩ := list_map_of cmDat CmFit ds1 (fun d hd => opn_cmd (I1 d hd))
  obtain ⟨ns, rfl, hns⟩ := list_map_of (fun n => Dat.int .i64 n) I64 ds2 (fun d hd => opn_int (I2 d hd))
  have hr := reach_is
  rw [bytes_cmd, List.length_map] at b1
  rw [bytes_int, List.length_map] at b2
  rw [dat_cells] at C1
  rw [dat_ints] at C2
  have hc1 : cs.length ≤ 2199023255552 := by omega
  have hn1 : ns.length ≤ 17592186044416 := by omega
  refine ⟨⟨k, cs, ns⟩, a1, c1, a2, c2, ?_, ⟨C1, Ints.of_cells (Nat.le_trans hn1 (by decide)) hns C2, hc1, hn1⟩, hk, hcs⟩
  show [Value.int .i64 k] ++ ([Value.slice a1 (cs.map cmDat).length c1] ++ ([Value.slice a2 (ns.map _).length c2] ++ [])) = _
  rw [List.length_map, List.length_map]; rfl
set_option maxRecDepth 100000 in
theorem tEqC : (runF ⟨tt, fns, { loops := [(4, ⟨[(13, .int .i64)], []⟩)] }⟩ (Try.f40.body.getD .skip) Try.f40.results.toList (entry Try.f40.ntmps [.lf (.sl 0 (.var 0) (.var 1)), .lf (.sl 1 (.var 2) (.var 3))] [] ⟨0, 0, 0, 4, 2⟩)) =
  (.br (.cmp .neq (.nat 0) (.nat 2)) (.done (.lf (.bool (.lit .false))) ⟨[], ⟨0, 0, 0, 4, 2⟩⟩) (.loop 4 ⟨[(.lit 0)], [], [], [], []⟩ ⟨[], ⟨0, 0, 0, 4, 2⟩⟩ ⟨[], ⟨1, 0, 0, 4, 2⟩⟩ (.br (.cmp .lss (.var 0) (.nat 0)) (.need (.inb 0 (.var 0) (.nat 0)) (.need (.inb 1 (.var 0) (.nat 2)) (.par (.ld .false (.adr 0 (.var 0) 8 0) [(tVi 1), (tVi 2), (tVi 3), (tVi 4), (tVi 5), (tVi 6), (tVi 7), (tVi 8)] ⟨[], ⟨1, 0, 0, 4, 2⟩⟩ ⟨[], ⟨9, 0, 0, 4, 2⟩⟩ (.ld .false (.adr 1 (.var 0) 8 0) [(tVi 9), (tVi 10), (tVi 11), (tVi 12), (tVi 13), (tVi 14), (tVi 15), (tVi 16)] ⟨[], ⟨9, 0, 0, 4, 2⟩⟩ ⟨[], ⟨17, 0, 0, 4, 2⟩⟩ (.br (.not (.and (.cmp .eql (.var 1) (.var 9)) (.and (.cmp .eql (.var 2) (.var 10)) (.and (.cmp .eql (.var 3) (.var 11)) (.and (.cmp .eql (.var 4) (.var 12)) (.and (.cmp .eql (.var 5) (.var 13)) (.and (.cmp .eql (.var 6) (.var 14)) (.and (.cmp .eql (.var 7) (.var 15)) (.cmp .eql (.var 8) (.var 16)))))))))) (.done (.lf (.bool (.lit .false))) ⟨[], ⟨17, 0, 0, 4, 2⟩⟩) (.again 4 ⟨[(.op .add .i64 (.var 0) (.lit 1))], [], [], [], []⟩ ⟨[], ⟨17, 0, 0, 4, 2⟩⟩)))) (.ld .false (.adr 1 (.var 0) 8 0) [(tVi 1), (tVi 2), (tVi 3), (tVi 4), (tVi 5), (tVi 6), (tVi 7), (tVi 8)] ⟨[], ⟨1, 0, 0, 4, 2⟩⟩ ⟨[], ⟨9, 0, 0, 4, 2⟩⟩ (.ld .false (.adr 0 (.var 0) 8 0) [(tVi 9), (tVi 10), (tVi 11), (tVi 12), (tVi 13), (tVi 14), (tVi 15), (tVi 16)] ⟨[], ⟨9, 0, 0, 4, 2⟩⟩ ⟨[], ⟨17, 0, 0, 4, 2⟩⟩ (.br (.not (.and (.cmp .eql (.var 9) (.var 1)) (.and (.cmp .eql (.var 10) (.var 2)) (.and (.cmp .eql (.var 11) (.var 3)) (.and (.cmp .eql (.var 12) (.var 4)) (.and (.cmp .eql (.var 13) (.var 5)) (.and (.cmp .eql (.var 14) (.var 6)) (.and (.cmp .eql (.var 15) (.var 7)) (.cmp .eql (.var 16) (.var 8)))))))))) (.done (.lf (.bool (.lit .false))) ⟨[], ⟨17, 0, 0, 4, 2⟩⟩) (.again 4 ⟨[(.op .add .i64 (.var 0) (.lit 1))], [], [], [], []⟩ ⟨[], ⟨17, 0, 0, 4, 2⟩⟩))))))) (.done (.lf (.bool (.lit .true))) ⟨[], ⟨1, 0, 0, 4, 2⟩⟩)))) := by kernel_rfl
noncomputable def csSame (xs ys : List CmD) : Bool := @decide (xs = ys) (Classical.propDecidable _)
theorem csSame_f {xs ys : List CmD} (h : ¬ xs = ys) : csSame xs ys = false := @decide_eq_false _ (Classical.propDecidable _) h
theorem csSame_t {xs ys : List CmD} (h : xs = ys) : csSame xs ys = true := @decide_eq_true _ (Classical.propDecidable _) h
def IcI (xs ys : List CmD) (vs : Vals) (hx : HX) : Prop := ∃ k : Nat, k ≤ xs.length ∧ xs.take k = ys.take k ∧ vs = ⟨[(k : Int)], [], [], [], []⟩ ∧ hx = HX.nil
theorem eqc_any (a : Option Addr) (cap : Nat) (xs : List CmD) (a2 : Option Addr) (cap2 : Nat) (ys : List CmD) (w : World) (H : Cells w a (ccells xs)) (H2 : Cells w a2 (ccells ys)) (hl : xs.length ≤ 140737488355328) : Calls Try.prog 40 #[.slice a xs.length cap, .slice a2 ys.length cap2] w (PureAt w (.bool (csSame xs ys))) := by
  refine calls_at (tab_ok _) Try.func40 rfl tEqC (ρ := ⟨[], [], [], [xs.length, cap, ys.length, cap2], [a, a2]⟩) (ids := []) rfl (Facts.initP rfl oneNil) ?_
  by_cases hlen : xs.length = ys.length
  · refine br_f (show ((xs.length : Int) != (ys.length : Int)) = false by simp [hlen]) ?_
    refine loop_i (IcI xs ys) (fun vs => xs.length - (vs.i.headD 0).toNat) (fun ids w2 hp hf => ⟨HX.nil, HXok.none _ _, 0, by omega, rfl, rfl, rfl⟩) ?_
    rintro vs hx' hcnt ⟨k, hk1, he, rfl, rfl⟩
    by_cases hk : k < xs.length
    · refine br_t (show decide ((k : Int) < (xs.length : Int)) = true from decide_eq_true (by omega)) ?_
      obtain ⟨x, hx⟩ : ∃ b, xs[k]? = some b := ⟨_, List.getElem?_eq_getElem hk⟩
      obtain ⟨y, hy⟩ : ∃ b, ys[k]? = some b := ⟨_, List.getElem?_eq_getElem (by omega)⟩
      obtain ⟨s1, c1⟩ := c_elt H hx
      obtain ⟨s2, c2⟩ := c_elt H2 hy
      have hst := take_stepV hx hy he
      have hwk : IntKind.i64.wrap ((k : Int) + 1) = ((k + 1 : Nat) : Int) := by rw [wrap_i64 (by omega)]; omega
      refine need_i ⟨s1, (show (0 : Int) ≤ k by omega), (show (k : Int) < xs.length by omega)⟩ ?_
      refine need_i ⟨s2, (show (0 : Int) ≤ k by omega), (show (k : Int) < ys.length by omega)⟩ ?_
      by_cases hxy : x = y
      · have e1 := hst.2 hxy
        have hce : (!cmdEq x y) = false := by rw [(cmdEq_iff x y).2 hxy]; rfl
        have fin : ∀ {es : Vec} {m : Mem} {ρ : Env} {L : Stack}, (∀ ids, es.den ρ ids = ⟨[IntKind.i64.wrap ((k : Int) + 1)], [], [], [], []⟩) → (Tree.again 4 es m).holds ⟨Try.prog, w, fun _ => False, PureAt w (.bool (csSame xs ys))⟩ ρ [] HX.nil ((4, fun vs' hx'' => IcI xs ys vs' hx'' ∧ xs.length - (vs'.i.headD 0).toNat < xs.length - ((⟨[(k : Int)], [], [], [], []⟩ : Vals).i.headD 0).toNat) :: L) := by
          intro es m ρ L hes ids w2 hp hf
          refine ⟨HX.nil, HXok.none _ _, _, rfl, ?_⟩
          rw [hes]
          refine ⟨⟨k + 1, by omega, e1, by rw [hwk], rfl⟩, ?_⟩
          show xs.length - (IntKind.i64.wrap ((k : Int) + 1)).toNat < xs.length - ((k : Int)).toNat
          rw [hwk]; omega
        refine par_i ?_ ?_
        · refine ⟨⟨x.is, [], [], [], []⟩, fun ids => c1 _ (fun q => q), ⟨rfl, oneNil⟩, ?_⟩
          refine ⟨⟨y.is, [], [], [], []⟩, fun ids => c2 _ (fun q => q), ⟨rfl, oneNil⟩, ?_⟩
          exact br_f (Eq.trans (b := !cmdEq x y) (by kernel_rfl) hce) (fin (fun _ => rfl))
        · refine ⟨⟨y.is, [], [], [], []⟩, fun ids => c2 _ (fun q => q), ⟨rfl, oneNil⟩, ?_⟩
          refine ⟨⟨x.is, [], [], [], []⟩, fun ids => c1 _ (fun q => q), ⟨rfl, oneNil⟩, ?_⟩
          exact br_f (Eq.trans (b := !cmdEq x y) (by kernel_rfl) hce) (fin (fun _ => rfl))
      · have hce : (!cmdEq x y) = true := by
          have : cmdEq x y = false := by
            cases h : cmdEq x y with
            | false => rfl
            | true => exact absurd ((cmdEq_iff x y).1 h) hxy
          rw [this]; rfl
        have hne : ¬ xs = ys := fun e => hxy (by rw [e] at hx; rw [hx] at hy; exact Option.some.inj hy)
        have fin : ∀ {m : Mem} {ρ : Env} {L : Stack} {hx : HX}, (Tree.done (.lf (.bool (.lit false))) m).holds ⟨Try.prog, w, fun _ => False, PureAt w (.bool (csSame xs ys))⟩ ρ [] hx L := pure_done fun _ => by rw [csSame_f hne]; rfl
        refine par_i ?_ ?_
        · refine ⟨⟨x.is, [], [], [], []⟩, fun ids => c1 _ (fun q => q), ⟨rfl, oneNil⟩, ?_⟩
          refine ⟨⟨y.is, [], [], [], []⟩, fun ids => c2 _ (fun q => q), ⟨rfl, oneNil⟩, ?_⟩
          exact br_t (Eq.trans (b := !cmdEq x y) (by kernel_rfl) hce) fin
        · refine ⟨⟨y.is, [], [], [], []⟩, fun ids => c2 _ (fun q => q), ⟨rfl, oneNil⟩, ?_⟩
          refine ⟨⟨x.is, [], [], [], []⟩, fun ids => c1 _ (fun q => q), ⟨rfl, oneNil⟩, ?_⟩
          exact br_t (Eq.trans (b := !cmdEq x y) (by kernel_rfl) hce) fin
    · refine br_f (show decide ((k : Int) < (xs.length : Int)) = false from decide_eq_false (by omega)) (pure_done fun _ => ?_)
      have e : xs = ys := by rw [List.take_of_length_le (by omega), List.take_of_length_le (by omega)] at he; exact he
      rw [csSame_t e]; rfl
  · refine br_t (show ((xs.length : Int) != (ys.length : Int)) = true by simp only [bne_iff_ne, ne_eq]; omega) (pure_done fun _ => ?_)
    rw [csSame_f (fun e => hlen (by rw [e]))]; rfl
set_option maxRecDepth 100000 in
theorem tEqN : (runF ⟨tt, fns, { loops := [(4, ⟨[(13, .int .i64)], []⟩)] }⟩ (Try.f41.body.getD .skip) Try.f41.results.toList (entry Try.f41.ntmps [.lf (.sl 0 (.var 0) (.var 1)), .lf (.sl 1 (.var 2) (.var 3))] [] ⟨0, 0, 0, 4, 2⟩)) =
  (.br (.cmp .neq (.nat 0) (.nat 2)) (.done (.lf (.bool (.lit .false))) ⟨[], ⟨0, 0, 0, 4, 2⟩⟩) (.loop 4 ⟨[(.lit 0)], [], [], [], []⟩ ⟨[], ⟨0, 0, 0, 4, 2⟩⟩ ⟨[], ⟨1, 0, 0, 4, 2⟩⟩ (.br (.cmp .lss (.var 0) (.nat 0)) (.need (.inb 0 (.var 0) (.nat 0)) (.need (.inb 1 (.var 0) (.nat 2)) (.par (.ld .false (.adr 0 (.var 0) 1 0) [(tVi 1)] ⟨[], ⟨1, 0, 0, 4, 2⟩⟩ ⟨[], ⟨2, 0, 0, 4, 2⟩⟩ (.ld .false (.adr 1 (.var 0) 1 0) [(tVi 2)] ⟨[], ⟨2, 0, 0, 4, 2⟩⟩ ⟨[], ⟨3, 0, 0, 4, 2⟩⟩ (.br (.cmp .neq (.var 1) (.var 2)) (.done (.lf (.bool (.lit .false))) ⟨[], ⟨3, 0, 0, 4, 2⟩⟩) (.again 4 ⟨[(.op .add .i64 (.var 0) (.lit 1))], [], [], [], []⟩ ⟨[], ⟨3, 0, 0, 4, 2⟩⟩)))) (.ld .false (.adr 1 (.var 0) 1 0) [(tVi 1)] ⟨[], ⟨1, 0, 0, 4, 2⟩⟩ ⟨[], ⟨2, 0, 0, 4, 2⟩⟩ (.ld .false (.adr 0 (.var 0) 1 0) [(tVi 2)] ⟨[], ⟨2, 0, 0, 4, 2⟩⟩ ⟨[], ⟨3, 0, 0, 4, 2⟩⟩ (.br (.cmp .neq (.var 2) (.var 1)) (.done (.lf (.bool (.lit .false))) ⟨[], ⟨3, 0, 0, 4, 2⟩⟩) (.again 4 ⟨[(.op .add .i64 (.var 0) (.lit 1))], [], [], [], []⟩ ⟨[], ⟨3, 0, 0, 4, 2⟩⟩))))))) (.done (.lf (.bool (.lit .true))) ⟨[], ⟨1, 0, 0, 4, 2⟩⟩)))) := by kernel_rfl
theorem eqn_any (a : Option Addr) (cap : Nat) (xs : List Int) (a2 : Option Addr) (cap2 : Nat) (ys : List Int) (w : World) (H : Ints w a xs) (H2 : Ints w a2 ys) (hl : xs.length ≤ 140737488355328) : Calls Try.prog 41 #[.slice a xs.length cap, .slice a2 ys.length cap2] w (PureAt w (.bool (decide (xs = ys)))) := by
  refine calls_at (tab_ok _) Try.func41 rfl tEqN (ρ := ⟨[], [], [], [xs.length, cap, ys.length, cap2], [a, a2]⟩) (ids := []) rfl (Facts.initP rfl oneNil) ?_
  by_cases hlen : xs.length = ys.length
  · refine br_f (show ((xs.length : Int) != (ys.length : Int)) = false by simp [hlen]) ?_
    refine loop_i (ItI xs ys) (fun vs => xs.length - (vs.i.headD 0).toNat) (fun ids w2 hp hf => ⟨HX.nil, HXok.none _ _, 0, by omega, rfl, rfl, rfl⟩) ?_
    rintro vs hx' hcnt ⟨k, hk1, he, rfl, rfl⟩
    by_cases hk : k < xs.length
    · refine br_t (show decide ((k : Int) < (xs.length : Int)) = true from decide_eq_true (by omega)) ?_
      obtain ⟨x, hx⟩ : ∃ b, xs[k]? = some b := ⟨_, List.getElem?_eq_getElem hk⟩
      obtain ⟨y, hy⟩ : ∃ b, ys[k]? = some b := ⟨_, List.getElem?_eq_getElem (by omega)⟩
      obtain ⟨s1, c1⟩ := ints_at H hx
      obtain ⟨s2, c2⟩ := ints_at H2 hy
      have hst := take_stepV hx hy he
      have hwk : IntKind.i64.wrap ((k : Int) + 1) = ((k + 1 : Nat) : Int) := by rw [wrap_i64 (by omega)]; omega
      refine need_i ⟨s1, (show (0 : Int) ≤ k by omega), (show (k : Int) < xs.length by omega)⟩ ?_
      refine need_i ⟨s2, (show (0 : Int) ≤ k by omega), (show (k : Int) < ys.length by omega)⟩ ?_
      by_cases hxy : x = y
      · have e1 := hst.2 hxy
        have fin : ∀ {es : Vec} {m : Mem} {ρ : Env} {L : Stack}, (∀ ids, es.den ρ ids = ⟨[IntKind.i64.wrap ((k : Int) + 1)], [], [], [], []⟩) → (Tree.again 4 es m).holds ⟨Try.prog, w, fun _ => False, PureAt w (.bool (decide (xs = ys)))⟩ ρ [] HX.nil ((4, fun vs' hx'' => ItI xs ys vs' hx'' ∧ xs.length - (vs'.i.headD 0).toNat < xs.length - ((⟨[(k : Int)], [], [], [], []⟩ : Vals).i.headD 0).toNat) :: L) := by
          intro es m ρ L hes ids w2 hp hf
          refine ⟨HX.nil, HXok.none _ _, _, rfl, ?_⟩
          rw [hes]
          refine ⟨⟨k + 1, by omega, e1, by rw [hwk], rfl⟩, ?_⟩
          show xs.length - (IntKind.i64.wrap ((k : Int) + 1)).toNat < xs.length - ((k : Int)).toNat
          rw [hwk]; omega
        refine par_i ?_ ?_
        · refine ⟨⟨[x], [], [], [], []⟩, fun ids => c1 _ (fun q => q), ⟨rfl, oneNil⟩, ?_⟩
          refine ⟨⟨[y], [], [], [], []⟩, fun ids => c2 _ (fun q => q), ⟨rfl, oneNil⟩, ?_⟩
          exact br_f (show (x != y) = false by simpa using hxy) (fin (fun _ => rfl))
        · refine ⟨⟨[y], [], [], [], []⟩, fun ids => c2 _ (fun q => q), ⟨rfl, oneNil⟩, ?_⟩
          refine ⟨⟨[x], [], [], [], []⟩, fun ids => c1 _ (fun q => q), ⟨rfl, oneNil⟩, ?_⟩
          exact br_f (show (x != y) = false by simpa using hxy) (fin (fun _ => rfl))
      · have hne : ¬ xs = ys := fun e => hxy (by rw [e] at hx; rw [hx] at hy; exact Option.some.inj hy)
        have fin : ∀ {m : Mem} {ρ : Env} {L : Stack} {hx : HX}, (Tree.done (.lf (.bool (.lit false))) m).holds ⟨Try.prog, w, fun _ => False, PureAt w (.bool (decide (xs = ys)))⟩ ρ [] hx L := pure_done fun _ => by rw [decide_eq_false hne]; rfl
        refine par_i ?_ ?_
        · refine ⟨⟨[x], [], [], [], []⟩, fun ids => c1 _ (fun q => q), ⟨rfl, oneNil⟩, ?_⟩
          refine ⟨⟨[y], [], [], [], []⟩, fun ids => c2 _ (fun q => q), ⟨rfl, oneNil⟩, ?_⟩
          exact br_t (show (x != y) = true by simpa using hxy) fin
        · refine ⟨⟨[y], [], [], [], []⟩, fun ids => c2 _ (fun q => q), ⟨rfl, oneNil⟩, ?_⟩
          refine ⟨⟨[x], [], [], [], []⟩, fun ids => c1 _ (fun q => q), ⟨rfl, oneNil⟩, ?_⟩
          exact br_t (show (x != y) = true by simpa using hxy) fin
    · refine br_f (show decide ((k : Int) < (xs.length : Int)) = false from decide_eq_false (by omega)) (pure_done fun _ => ?_)
      have e : xs = ys := by rw [List.take_of_length_le (by omega), List.take_of_length_le (by omega)] at he; exact he
      rw [decide_eq_true e]; rfl
  · refine br_t (show ((xs.length : Int) != (ys.length : Int)) = true by simp only [bne_iff_ne, ne_eq]; omega) (pure_done fun _ => ?_)
    rw [decide_eq_false (fun e => hlen (by rw [e]))]; rfl
abbrev tVSamem0 : Mem := ⟨[(35, [(tVi 0), (tSl 0 0 1), (tSl 1 2 3)]), (35, [(tVi 1), (tSl 2 4 5), (tSl 3 6 7)])], ⟨2, 0, 0, 8, 4⟩⟩
abbrev tVSamem1 : Mem := ⟨[(35, [(tVi 0), (tSl 0 0 1), (tSl 1 2 3)]), (35, [(tVi 1), (tSl 2 4 5), (tSl 3 6 7)])], ⟨2, 1, 0, 8, 4⟩⟩
abbrev tVSamem2 : Mem := ⟨[(35, [(tVi 0), (tSl 0 0 1), (tSl 1 2 3)]), (35, [(tVi 1), (tSl 2 4 5), (tSl 3 6 7)])], ⟨2, 2, 0, 8, 4⟩⟩
set_option maxRecDepth 100000 in
theorem tVSame : (runF ⟨tt, fns, { }⟩ (Try.f25.body.getD .skip) Try.f25.results.toList (entry Try.f25.ntmps [.agg [.int .i64 (.var 0), .sl 0 (.var 0) (.var 1), .sl 1 (.var 2) (.var 3)], .agg [.int .i64 (.var 1), .sl 2 (.var 4) (.var 5), .sl 3 (.var 6) (.var 7)]] [] ⟨2, 0, 0, 8, 4⟩)) =
  (.br (.cmp .eql (.var 0) (.var 1)) (.call 40 [(.lf (tSl 0 0 1)), (.lf (tSl 2 4 5))] tVSamem0 (.lf (.bool (.var 0))) tVSamem1 (.br (.var 0) (.call 41 [(.lf (tSl 1 2 3)), (.lf (tSl 3 6 7))] tVSamem1 (.lf (.bool (.var 1))) tVSamem2 (.done (.lf (.bool (.var 1))) tVSamem2)) (.done (.lf (.bool (.lit .false))) tVSamem1))) (.done (.lf (.bool (.lit .false))) tVSamem0)) := by kernel_rfl
theorem vsame_any (v : Vl) (a1 : Option Addr) (c1 : Nat) (a2 : Option Addr) (c2 : Nat) (u : Vl) (b1 : Option Addr) (d1 : Nat) (b2 : Option Addr) (d2 : Nat) (w : World) (H : VlAt w v a1 a2) (H2 : VlAt w u b1 b2) : Calls Try.prog 25 #[vlV v a1 c1 a2 c2, vlV u b1 d1 b2 d2] w (PureAt w (.bool (vlSame v u))) := by
  have hl1 := H.l1
  have hl2 := H.l2
  refine calls_at (tab_ok _) Try.func25 rfl tVSame (ρ := ⟨[v.k, u.k], [], [], [v.cs.length, c1, v.ns.length, c2, u.cs.length, d1, u.ns.length, d2], [a1, a2, b1, b2]⟩) (ids := []) (hx := (vlX v a1 a2).and (vlX u b1 b2)) rfl (Facts.initq rfl oneNil ⟨H.X, H2.X⟩ (fun k hk => hk.elim (vlX_sep H.X k) (vlX_sep H2.X k))) ?_
  by_cases hk : v.k = u.k
  · refine br_t (show (v.k == u.k) = true by simpa using hk) ?_
    refine node_pure ⟨[], [csSame v.cs u.cs], [], [], []⟩ rfl rfl rfl oneNil (fun ids w2 hp hf => eqc_any a1 c1 v.cs b1 d1 u.cs w2 hf.x.1.1 hf.x.2.1 (by omega)) ?_
    by_cases hc : v.cs = u.cs
    · refine br_t (csSame_t hc) ?_
      refine node_pure ⟨[], [decide (v.ns = u.ns)], [], [], []⟩ rfl rfl rfl oneNil (fun ids w2 hp hf => eqn_any a2 c2 v.ns b2 d2 u.ns w2 (H.fit.at_ hf.x.1).n (H2.fit.at_ hf.x.2).n (by omega)) ?_
      refine pure_done (fun _ => ?_)
      show Value.bool (decide (v.ns = u.ns)) = _
      by_cases hn : v.ns = u.ns
      · rw [decide_eq_true hn, vlSame_t (by cases v; cases u; simp_all)]
      · rw [decide_eq_false hn, vlSame_f (fun e => hn (by rw [e]))]
    · refine br_f (csSame_f hc) (pure_done (fun _ => ?_))
      rw [vlSame_f (fun e => hc (by rw [e]))]; rfl
  · refine br_f (show (v.k == u.k) = false by simpa using hk) (pure_done (fun _ => ?_))
    rw [vlSame_f (fun e => hk (by rw [e]))]; rfl
def ClNew (w : World) (n : Nat) (xs : List Value) (e : Ending) (w' : World) : Prop := ∃ a' c', e = .returned (.slice a' n c') ∧ (HX.cl a' xs).X w' ∧ (∀ k, (HX.cl a' xs).F k → w.heap.size ≤ k) ∧ Below w.heap.size w w'
theorem none_nil {w : World} {xs : List Value} (h : Cells w none xs) : xs = [] := by
  cases xs with
  | nil => rfl
  | cons x r => exact absurd (h (by simp)).1 (by simp [PlainA])
set_option maxRecDepth 100000 in
theorem tSCloneC : (runF ⟨tt, fns, { }⟩ (Try.f42.body.getD .skip) Try.f42.results.toList (entry Try.f42.ntmps [.lf (.sl 0 (.var 0) (.var 1))] [] ⟨0, 0, 0, 2, 1⟩)) =
  (.br (.anone 0) (.done (.lf .nilsl) ⟨[], ⟨0, 0, 0, 2, 1⟩⟩) (.gen (.call ⟨(.builtin .append), #[(.tmp 5), (.tmp 6)], #[32, 32]⟩) 32 [(5, (.lf (.nsl 0 0 0 0))), (6, (.lf (tSl 0 0 1)))] ⟨[(43, [])], ⟨0, 0, 0, 2, 1⟩⟩ (.some (.lf (tSl 1 2 3))) ⟨[(43, [])], ⟨0, 0, 0, 4, 2⟩⟩ (.done (.lf (tSl 1 2 3)) ⟨[(43, [])], ⟨0, 0, 0, 4, 2⟩⟩))) := by kernel_rfl
set_option maxRecDepth 100000 in
theorem tSCloneN : (runF ⟨tt, fns, { }⟩ (Try.f32.body.getD .skip) Try.f32.results.toList (entry Try.f32.ntmps [.lf (.sl 0 (.var 0) (.var 1))] [] ⟨0, 0, 0, 2, 1⟩)) =
  (.br (.anone 0) (.done (.lf .nilsl) ⟨[], ⟨0, 0, 0, 2, 1⟩⟩) (.gen (.call ⟨(.builtin .append), #[(.tmp 5), (.tmp 6)], #[33, 33]⟩) 33 [(5, (.lf (.nsl 0 0 0 0))), (6, (.lf (tSl 0 0 1)))] ⟨[(3, [])], ⟨0, 0, 0, 2, 1⟩⟩ (.some (.lf (tSl 1 2 3))) ⟨[(3, [])], ⟨0, 0, 0, 4, 2⟩⟩ (.done (.lf (tSl 1 2 3)) ⟨[(3, [])], ⟨0, 0, 0, 4, 2⟩⟩))) := by kernel_rfl
theorem scloneN_any (a : Option Addr) (cap : Nat) (ns : List Int) (w : World) (H : Cells w a (ns.map (Value.int .i64))) (hl : ns.length ≤ 17592186044416) : Calls Try.prog 32 #[.slice a ns.length cap] w (ClNew w ns.length (ns.map (Value.int .i64))) := by
  refine calls_at (tab_ok _) Try.func32 rfl tSCloneN (ρ := ⟨[], [], [], [ns.length, cap], [a]⟩) (ids := []) (hx := HX.cl a (ns.map (Value.int .i64))) rfl (Facts.initq rfl oneNil H (cl_sep H)) ?_
  by_cases h : a.isNone = true
  · refine br_t h ?_
    obtain rfl : a = none := by simpa using h
    have e := none_nil H
    have e2 : ns = [] := by simpa using e
    subst e2
    intro ids w2 hp hf
    exact ⟨none, 0, rfl, fun h => by simp at h, fun k hk => absurd rfl hk.1, hf.chg.below⟩
  · refine br_f (show a.isNone = false by cases a with | none => exact absurd rfl h | some x => rfl) ?_
    refine node_clones (sz := 1) (xs := ns.map (Value.int .i64)) rfl Try.underlying33 info_int1 rfl (by decide) 0 rfl (fun _ => a) ns.length cap (by rw [List.length_map, Nat.mul_one]) (fun ids w2 hp hf => hf.x) (fun x hx => by obtain ⟨n, _, rfl⟩ := List.mem_map.1 hx; rfl) (by unfold maxLen; omega) (by omega) (fun _ => rfl) (fun _ => rfl) (fun _ _ _ => rfl) rfl rfl (fun _ _ => rfl) ?_
    intro a' c' hfr ids w2 hp hf
    exact ⟨a', c', rfl, rw_cells hf.x.2, rw_fresh hf.x.2 (fun k h1 h2 => (hfr k h1 h2).1), hf.chg.below⟩
section
variable {C : Cfg} {ρ : Env} {pre : List Nat} {hx : HX} {L : Stack} {m m' : Mem} {args : List SV} {r : SV} {t : Tree}
theorem node_cl {f : Nat} {n : Nat} {xs : List Value} (AS : List Nat → Array Value) (vs : Option Addr → Nat → Vals) (hargs : ∀ ids, (args.map (SV.den ρ ids)).toArray = AS ids) (hcall : ∀ ids w, pre <+: ids → Facts C m ρ ids hx w → Calls C.P f (AS ids) w (ClNew w n xs))
    (hr : ∀ a' c' ids, r.den (ρ.add (vs a' c')) ids = .slice a' n c') (hhp : m'.hp = m.hp) (hfit : hpFits m.c m.hp.length m.hp = true) (hc : ∀ a' c', (ρ.add (vs a' c')).cnt = m'.c) (h1 : ∀ a' c' v, v ∈ (vs a' c').v → v.oneCell' = true)
    (h : ∀ a' c', (∀ k, (HX.cl a' xs).F k → C.W.heap.size ≤ k ∧ ¬ hx.F k) → t.holds C (ρ.add (vs a' c')) pre (hx.and (HX.cl a' xs)) L) : (Tree.call f args m r m' t).holds C ρ pre hx L := by
  refine node_out AS (fun u hy => ∃ a' c', u = vs a' c' ∧ hy = HX.cl a' xs) hargs (fun ids w hp hf => ?_) hhp hfit ?_ ?_
  · refine (hcall ids w hp hf).mono ?_
    rintro e w' ⟨a', c', rfl, hX, hge, hb⟩
    exact ⟨_, _, ⟨a', c', rfl, rfl⟩, by rw [hr], hX, fun k hk => ⟨hge k hk, cl_sep hX k hk⟩, hb⟩
  · rintro u hy ⟨a', c', rfl, rfl⟩
    exact ⟨hc _ _, h1 _ _⟩
  · rintro u hy ⟨a', c', rfl, rfl⟩ hfr
    exact h a' c' hfr
end
abbrev tVClonem0 : Mem := ⟨[(35, [(tVi 0), (tSl 2 4 5), (tSl 3 6 7)]), (35, [(tVi 0), (tSl 2 4 5), (tSl 3 6 7)])], ⟨1, 0, 0, 8, 4⟩⟩
abbrev tVClonem1 : Mem := ⟨[(35, [(tVi 0), (tSl 0 0 1), (tSl 1 2 3)]), (35, [(tLi 0), .nilsl, .nilsl])], ⟨1, 0, 0, 4, 2⟩⟩
abbrev tVClonem2 : Mem := ⟨[(35, [(tVi 0), (tSl 0 0 1), (tSl 1 2 3)]), (35, [(tLi 0), .nilsl, .nilsl])], ⟨1, 0, 0, 6, 3⟩⟩
abbrev tVClonem3 : Mem := ⟨[(35, [(tVi 0), (tSl 0 0 1), (tSl 1 2 3)]), (35, [(tLi 0), .nilsl, .nilsl])], ⟨1, 0, 0, 8, 4⟩⟩
set_option maxRecDepth 100000 in
theorem tVClone : (runF ⟨tt, fns, { }⟩ (Try.f26.body.getD .skip) Try.f26.results.toList (entry Try.f26.ntmps [.agg [.int .i64 (.var 0), .sl 0 (.var 0) (.var 1), .sl 1 (.var 2) (.var 3)]] [] ⟨1, 0, 0, 4, 2⟩)) =
  (.par (.par (.call 42 [(.lf (tSl 0 0 1))] tVClonem1 (.lf (tSl 2 4 5)) tVClonem2 (.call 32 [(.lf (tSl 1 2 3))] tVClonem2 (.lf (tSl 3 6 7)) tVClonem3 (.done (.agg [(tVi 0), (tSl 2 4 5), (tSl 3 6 7)]) tVClonem0))) (.call 42 [(.lf (tSl 0 0 1))] tVClonem1 (.lf (tSl 2 4 5)) tVClonem2 (.call 32 [(.lf (tSl 1 2 3))] tVClonem2 (.lf (tSl 3 6 7)) tVClonem3 (.done (.agg [(tVi 0), (tSl 2 4 5), (tSl 3 6 7)]) tVClonem0)))) (.call 42 [(.lf (tSl 0 0 1))] tVClonem1 (.lf (tSl 2 4 5)) tVClonem2 (.call 32 [(.lf (tSl 1 2 3))] tVClonem2 (.lf (tSl 3 6 7)) tVClonem3 (.done (.agg [(tVi 0), (tSl 2 4 5), (tSl 3 6 7)]) tVClonem0)))) := by kernel_rfl
theorem row_isS {b : Option Addr} {n d sz e : Nat} {cs : List Value} {w : World} (hx : (HX.rw sz e b n d cs).X w) (hne : cs ≠ []) : b.isSome = true := by
  have hc : d ≠ 0 := fun q => by
    rcases hx with ⟨_, _, h3⟩ | ⟨h3, _⟩
    · exact hne h3
    · exact h3 q
  obtain ⟨g, _, rfl, _⟩ := rw_open hx hc
  rfl
def VlRow (w : World) (v : Vl) (e : Ending) (w' : World) : Prop := ∃ a1 c1 a2 c2, e = .returned (vlV v a1 c1 a2 c2) ∧ (crow a1 v.cs.length c1 v.cs).X w' ∧ (nrow a2 v.ns.length c2 v.ns).X w' ∧ (∀ k, (crow a1 v.cs.length c1 v.cs).F k → w.heap.size ≤ k) ∧ (∀ k, (nrow a2 v.ns.length c2 v.ns).F k → w.heap.size ≤ k ∧ ¬ (crow a1 v.cs.length c1 v.cs).F k) ∧ Below w.heap.size w w'
theorem cpvr_any (v : Vl) (a1 : Option Addr) (c1 : Nat) (a2 : Option Addr) (c2 : Nat) (w : World) (H : VlAt w v a1 a2) : Calls Try.prog 23 #[vlV v a1 c1 a2 c2] w (VlRow w v) := by
  have l1 := H.l1
  have l2 := H.l2
  refine calls_at (tab_ok _) Try.func23 rfl tCpVal (ρ := ⟨[v.k], [], [], [v.cs.length, c1, v.ns.length, c2], [a1, a2]⟩) (ids := []) (hx := vlX v a1 a2) rfl (Facts.initq rfl oneNil H.X (vlX_sep H.X)) ?_
  refine node_appends (xs := []) rfl Try.underlying32 info_cmd rfl (by decide) none 0 0 (fun _ => a1) v.cs.length c1 (ccells v.cs) (ccells_len _) (fun ids w _ _ => HX.rw_nil _ _ _ w) (fun ids w2 hp hf => hf.x.1) (ccells_one _) (fun w h => ⟨h, fun _ q => q⟩) (fun k h => absurd rfl h) (fun k h => absurd rfl h) (fun k h => absurd rfl h) (by unfold maxLen; omega) (by omega) (by intros; kernel_rfl) (by intros; kernel_rfl) (by intros; kernel_rfl) (by intros; kernel_rfl) (by intros; kernel_rfl) (by intros; kernel_rfl) ?_
  intro b1 d1 _ hd1 hw1
  refine node_appends (xs := []) rfl Try.underlying33 info_int1 rfl (by decide) none 0 0 (fun _ => a2) v.ns.length c2 (v.ns.map (Value.int .i64)) (by rw [List.length_map]; omega) (fun ids w _ _ => HX.rw_nil _ _ _ w) (fun ids w2 hp hf => hf.x.1.2) (fun x hx => by obtain ⟨n, _, rfl⟩ := List.mem_map.1 hx; rfl) (fun w h => ⟨h, fun _ q => q⟩) (fun k h => absurd rfl h) (fun k h => absurd rfl h) (fun k h => absurd rfl h) (by unfold maxLen; omega) (by omega) (by intros; kernel_rfl) (by intros; kernel_rfl) (by intros; kernel_rfl) (by intros; kernel_rfl) (by intros; kernel_rfl) (by intros; kernel_rfl) ?_
  intro b2 d2 _ hd2 hw2 ids w2 hp hf
  have e1 := hf.x.1.2
  have e2 := hf.x.2
  rw [List.nil_append] at e1 e2
  have z1 : 0 + v.cs.length = v.cs.length := Nat.zero_add _
  have z2 : 0 + v.ns.length = v.ns.length := Nat.zero_add _
  rw [z1] at e1
  rw [z2] at e2
  refine ⟨b1, d1, b2, d2, ?_, e1, e2, ?_, ?_, hf.chg.below⟩
  · show Ending.returned (.agg #[.int .i64 v.k, .slice b1 (0 + v.cs.length) d1, .slice b2 (0 + v.ns.length) d2]) = _
    rw [Nat.zero_add, Nat.zero_add]; rfl
  · rintro k ⟨h1, h2⟩
    exact (hw1 k h1 h2).elim (fun q => absurd rfl q.1) (fun q => q.1)
  · rintro k ⟨h1, h2⟩
    exact ⟨(hw2 k h1 h2).elim (fun q => absurd rfl q.1) (fun q => q.1), fun q => hd2 k h1 h2 (.inr q)⟩
end Go.Proofs.Ytbedoemdjlollaa

namespace Go.Proofs.Ytbedoemdjlollaa
open Go.ChangeShapes Go.WideShapes Go.ChangeAt Go.RowKit Go.Syn Go.Eng
set_option linter.unusedVariables false
set_option linter.unusedSimpArgs false
set_option maxRecDepth 100000
structure Im where
  ep : Int
  mem : List Int
  sl : Int
  regs : List Int
  tb : List SsD
def rg (r : List Int) (i : Nat) : Int := r.getD i 0
def rgs (r : List Int) : List Int := [rg r 0, rg r 1, rg r 2, rg r 3, rg r 4, rg r 5, rg r 6, rg r 7, rg r 8, rg r 9, rg r 10, rg r 11, rg r 12, rg r 13, rg r 14, rg r 15]
theorem rgs_of {r : List Int} (h : r.length = 16) : rgs r = r := by
  obtain ⟨a0, a1, a2, a3, a4, a5, a6, a7, a8, a9, a10, a11, a12, a13, a14, a15, rfl⟩ := list16 r h
  rfl
def imC (I : Im) (a1 : Option Addr) (c1 : Nat) (a2 : Option Addr) (c2 : Nat) : List Value :=
  [.int .i64 I.ep, .slice a1 I.mem.length c1, .int .i64 I.sl, .int .i64 (rg I.regs 0), .int .i64 (rg I.regs 1), .int .i64 (rg I.regs 2), .int .i64 (rg I.regs 3), .int .i64 (rg I.regs 4), .int .i64 (rg I.regs 5), .int .i64 (rg I.regs 6), .int .i64 (rg I.regs 7), .int .i64 (rg I.regs 8), .int .i64 (rg I.regs 9), .int .i64 (rg I.regs 10), .int .i64 (rg I.regs 11), .int .i64 (rg I.regs 12), .int .i64 (rg I.regs 13), .int .i64 (rg I.regs 14), .int .i64 (rg I.regs 15), .slice a2 I.tb.length c2]
def imV (I : Im) (a1 : Option Addr) (c1 : Nat) (a2 : Option Addr) (c2 : Nat) : Value := .agg (imC I a1 c1 a2 c2).toArray
def imI (I : Im) : List Int := [I.ep, I.sl, rg I.regs 0, rg I.regs 1, rg I.regs 2, rg I.regs 3, rg I.regs 4, rg I.regs 5, rg I.regs 6, rg I.regs 7, rg I.regs 8, rg I.regs 9, rg I.regs 10, rg I.regs 11, rg I.regs 12, rg I.regs 13, rg I.regs 14, rg I.regs 15]
def im0 : Im := ⟨0, [], 0, [0, 0, 0, 0, 0, 0, 0, 0, 0, 0, 0, 0, 0, 0, 0, 0], []⟩
structure ImAt (w : World) (I : Im) (a1 a2 : Option Addr) (es : List SE) : Prop where
  tb : es.map SE.s = I.tb
  mem : Ints w a1 I.mem
  tab : TbAt w a2 es
  reg : I.regs.length = 16
theorem ImAt.keep {w w' : World} {I : Im} {a1 a2 : Option Addr} {es : List SE} (h : ImAt w I a1 a2 es) (hb : ∀ k, k < w.heap.size → w'.heap[k]? = w.heap[k]?) : ImAt w' I a1 a2 es :=
  ⟨h.tb, Ints.loc h.mem (fun hne => hb _ (by have := cl_sep h.mem.cells (blk a1) ⟨by simpa using hne, rfl⟩; exact this)), h.tab.keep hb, h.reg⟩
theorem ImAt.len {w : World} {I : Im} {a1 a2 : Option Addr} {es : List SE} (h : ImAt w I a1 a2 es) : es.length = I.tb.length := by rw [← h.tb, List.length_map]
def validI (I : Im) : Bool := decide (0 ≤ I.ep) && decide (I.ep ≤ 1099511627776) && decide (0 ≤ I.sl) && decide (I.sl ≤ 1099511627776) && decide (checkV I.mem = 0) && validL I.regs && validT I.tb
structure VI (I : Im) : Prop where
  ep0 : 0 ≤ I.ep
  ep1 : I.ep ≤ 1099511627776
  sl0 : 0 ≤ I.sl
  sl1 : I.sl ≤ 1099511627776
  mem : setOkB I.mem = true
  regs : validL I.regs = true
  tb : VT I.tb
theorem check_zero {xs : List Int} : checkV xs = 0 ↔ setOkB xs = true := by
  unfold checkV; split <;> simp_all
theorem validI_iff (I : Im) : validI I = true ↔ VI I := by
  unfold validI
  simp only [Bool.and_eq_true, decide_eq_true_eq, check_zero, validT_iff]
  exact ⟨fun ⟨⟨⟨⟨⟨⟨a, b⟩, c⟩, d⟩, e⟩, f⟩, g⟩ => ⟨a, b, c, d, e, f, g⟩, fun h => ⟨⟨⟨⟨⟨⟨h.ep0, h.ep1⟩, h.sl0⟩, h.sl1⟩, h.mem⟩, h.regs⟩, h.tb⟩⟩
structure AnD where
  sess : Int
  seq : Int
  k : Int
  re : Int
  im : Int
def AnD.cells (a : AnD) : List Value := [.int .i64 a.sess, .int .i64 a.seq, .int .i64 a.k, .int .i64 a.re, .int .i64 a.im]
def ancells (l : List AnD) : List Value := l.flatMap AnD.cells
theorem an_len (a : AnD) : a.cells.length = 5 := rfl
theorem ancells_snoc (l : List AnD) (a : AnD) : ancells l ++ a.cells = ancells (l ++ [a]) := by unfold ancells; rw [List.flatMap_append]; simp
theorem an_one (a : AnD) : ∀ v ∈ a.cells, v.oneCell' = true := fun v hv => by
  unfold AnD.cells at hv
  simp only [List.mem_cons, List.not_mem_nil, or_false] at hv
  rcases hv with rfl | rfl | rfl | rfl | rfl <;> rfl
theorem info_ans : (Try.prog.info? 64).map (fun i => (i.zero, i.size, i.bytes)) = some (some (.agg #[.int .i64 0, .int .i64 0, .int .i64 0, .int .i64 0, .int .i64 0]), 5, 40) := by kernel_rfl
structure RunR where
  i : Im
  k : Int
  re : Int
  im : Int
def runV (I : Im) (c : CmD) : RunR :=
  if (askV I.tb c.sess c.seq c.ack).d then ⟨⟨I.ep, I.mem, I.sl, I.regs, (askV I.tb c.sess c.seq c.ack).t⟩, (askV I.tb c.sess c.seq c.ack).k, (askV I.tb c.sess c.seq c.ack).re, (askV I.tb c.sess c.seq c.ack).im⟩
  else ⟨⟨I.ep, I.mem, I.sl, (applyM I.regs c.op).1, keepV (askV I.tb c.sess c.seq c.ack).t c.sess c.seq (applyM I.regs c.op).2.1 (applyM I.regs c.op).2.2.1 (applyM I.regs c.op).2.2.2⟩, (applyM I.regs c.op).2.1, (applyM I.regs c.op).2.2.1, (applyM I.regs c.op).2.2.2⟩
theorem runV_mem (I : Im) (c : CmD) : (runV I c).i.mem = I.mem ∧ (runV I c).i.ep = I.ep ∧ (runV I c).i.sl = I.sl := by unfold runV; split <;> exact ⟨rfl, rfl, rfl⟩
theorem runV_len {I : Im} (c : CmD) (h : I.regs.length = 16) : (runV I c).i.regs.length = 16 := by
  unfold runV; split
  · exact h
  · exact (applyM_len _ _).trans h
def stepV (p : Im × List AnD) (c : CmD) : Im × List AnD := ((runV p.1 c).i, p.2 ++ [⟨c.sess, c.seq, (runV p.1 c).k, (runV p.1 c).re, (runV p.1 c).im⟩])
def runAll (I : Im) (cs : List CmD) : Im × List AnD := cs.foldl stepV (I, [])
theorem runAll_step (I : Im) {cs : List CmD} {k : Nat} {c : CmD} (h : cs[k]? = some c) : runAll I (cs.take (k + 1)) = stepV (runAll I (cs.take k)) c := by
  unfold runAll
  rw [List.take_add_one, h, List.foldl_append]; rfl
theorem runAll_keep (I : Im) (cs : List CmD) : ∀ p : Im × List AnD, (cs.foldl stepV p).1.mem = p.1.mem ∧ (cs.foldl stepV p).1.ep = p.1.ep ∧ (cs.foldl stepV p).1.sl = p.1.sl ∧ (cs.foldl stepV p).2.length = p.2.length + cs.length := by
  induction cs with
  | nil => intro p; exact ⟨rfl, rfl, rfl, rfl⟩
  | cons c r ih =>
    intro p
    obtain ⟨h1, h2, h3, h4⟩ := ih (stepV p c)
    obtain ⟨g1, g2, g3⟩ := runV_mem p.1 c
    refine ⟨h1.trans g1, h2.trans g2, h3.trans g3, ?_⟩
    rw [List.foldl_cons, h4]
    simp only [stepV, List.length_append, List.length_cons, List.length_nil]; omega
theorem opB_of {c : CmD} (h : cmdV c = 0) : 1 ≤ c.sess ∧ c.sess ≤ 1073741824 ∧ 1 ≤ c.seq ∧ c.seq ≤ 1099511627776 ∧ 0 ≤ c.ack ∧ c.ack < c.seq ∧ opB c.op = true := by
  unfold cmdV at h
  split at h
  · cases h
  · split at h
    · exact ⟨by omega, by omega, by omega, by omega, by omega, by omega, by assumption⟩
    · cases h
theorem applyM_valid {xs : List Int} (hx : xs.length = 16) (h : validL xs = true) (o : OpD) : validL (applyM xs o).1 = true := by
  unfold applyM
  split
  · rename_i hc
    simp only [Bool.and_eq_true] at hc
    obtain ⟨_, r12, _⟩ := (opB_iff _).1 hc.2
    split
    · exact h
    · split
      · rename_i hf
        refine valid_put ?_ _ hf
        split
        · exact valid_put h _ (valid_reg h _ (by omega))
        · exact h
      · exact h
  · exact h
theorem apply_kind {xs : List Int} {o : OpD} (h : validL xs = true) (h2 : opB o = true) : 1 ≤ (applyM xs o).2.1 ∧ (applyM xs o).2.1 ≤ 3 := by
  unfold applyM
  rw [if_pos (by rw [h, h2]; rfl)]
  split
  · exact ⟨by show (1 : Int) ≤ _; simp, by simp⟩
  · split
    · exact ⟨by show (1 : Int) ≤ _; simp, by simp⟩
    · exact ⟨by show (1 : Int) ≤ _; simp, by simp⟩
theorem VI.run {I : Im} (h : VI I) (hr : I.regs.length = 16) {c : CmD} (hc : cmdV c = 0) : VI (runV I c).i := by
  obtain ⟨c1, c2, c3, c4, c5, c6, c7⟩ := opB_of hc
  have ht := h.tb.ask (sess := c.sess) (seq := c.seq) (ack := c.ack) c1 c2 (by omega)
  unfold runV
  split
  · exact ⟨h.ep0, h.ep1, h.sl0, h.sl1, h.mem, h.regs, ht⟩
  · obtain ⟨k1, k2⟩ := apply_kind h.regs c7
    exact ⟨h.ep0, h.ep1, h.sl0, h.sl1, h.mem, applyM_valid hr h.regs _, ht.keep c4 k1 k2⟩
theorem firstE_all : ∀ {cs : List CmD}, firstE cs = 0 → ∀ c ∈ cs, cmdV c = 0
  | [], _, c, hc => by cases hc
  | d :: r, h, c, hc => by
    unfold firstE at h
    split at h
    · exact absurd h (by assumption)
    · rename_i hd
      rcases List.mem_cons.1 hc with rfl | hc
      · exact Classical.byContradiction hd
      · exact firstE_all h c hc
theorem VI.all {I : Im} (h : VI I) (hr : I.regs.length = 16) {cs : List CmD} (hc : ∀ c ∈ cs, cmdV c = 0) : ∀ k, VI (runAll I (cs.take k)).1 ∧ (runAll I (cs.take k)).1.regs.length = 16 := fun k => by
  induction k with
  | zero => exact ⟨h, hr⟩
  | succ k ih =>
    rcases Nat.lt_or_ge k cs.length with q | q
    · have e := List.getElem?_eq_getElem q
      rw [runAll_step I e]
      exact ⟨ih.1.run ih.2 (hc _ (List.mem_of_getElem? e)), runV_len _ ih.2⟩
    · rw [List.take_of_length_le (by omega)]; rw [List.take_of_length_le (by omega)] at ih; exact ih
structure ExR where
  i : Im
  an : List AnD
  e : Int
def goI (I : Im) (slot : Int) (v : Vl) : Im := if v.k = 2 then ⟨I.ep + 1, v.ns, slot, I.regs, I.tb⟩ else ⟨I.ep, I.mem, slot, I.regs, I.tb⟩
def execV (I : Im) (slot : Int) (v : Vl) : ExR :=
  if validI I = false then ⟨im0, [], 44⟩ else
  if slot ≠ I.sl + 1 ∨ 1099511627776 < slot ∨ (v.k = 2 ∧ 1099511627776 ≤ I.ep) then ⟨im0, [], 61⟩ else
  if valE v ≠ 0 then ⟨im0, [], valE v⟩ else ⟨(runAll (goI I slot v) v.cs).1, (runAll (goI I slot v) v.cs).2, 0⟩
end Go.Proofs.Ytbedoemdjlollaa

namespace Go.Proofs.Ytbedoemdjlollaa
open Go.ChangeShapes Go.WideShapes Go.ChangeAt Go.RowKit Go.Syn Go.Eng
set_option linter.unusedVariables false
set_option linter.unusedSimpArgs false
set_option maxRecDepth 100000
def imX (I : Im) (a1 a2 : Option Addr) (c2 : Nat) (es : List SE) : HX := (HX.cl a1 (I.mem.map (Value.int .i64))).and (tabR a2 c2 es)
def ImNew (w : World) (V : Value → Value) (I : Im) (e : Ending) (w' : World) : Prop := ∃ a1 c1 a2 c2 es, es.map SE.s = I.tb ∧ e = .returned (V (imV I a1 c1 a2 c2)) ∧ Dj a2 c2 es ∧ (∀ q, (tabR a2 c2 es).F q → ¬ (HX.cl a1 (I.mem.map (Value.int .i64))).F q) ∧ (imX I a1 a2 c2 es).X w' ∧ (∀ k, (imX I a1 a2 c2 es).F k → w.heap.size ≤ k) ∧ Below w.heap.size w w'
theorem imX_lt {I : Im} {a1 a2 : Option Addr} {c2 : Nat} {es : List SE} {w : World} (h : (imX I a1 a2 c2 es).X w) : ∀ k, (imX I a1 a2 c2 es).F k → k < w.heap.size := fun k hk => hk.elim (cl_sep h.1 k) (tabR_lt h.2 k)
structure ImFit (I : Im) : Prop where
  mem : ∀ x ∈ I.mem, I64 x
  len : I.mem.length ≤ 17592186044416
  reg : I.regs.length = 16
theorem ImFit.at_ {I : Im} (h : ImFit I) {a1 a2 : Option Addr} {c2 : Nat} {es : List SE} {w : World} (he : es.map SE.s = I.tb) (hX : (imX I a1 a2 c2 es).X w) : ImAt w I a1 a2 es :=
  ⟨he, Ints.of_cells (by have := h.len; omega) h.mem hX.1, tabR_at hX.2, h.reg⟩
theorem cl_nil (w : World) (a : Option Addr) : (HX.cl a []).X w := fun h => absurd h (Nat.lt_irrefl 0)
section
variable {C : Cfg} {ρ : Env} {pre : List Nat} {hx : HX} {L : Stack} {m m' : Mem} {args : List SV} {r : SV} {t : Tree}
theorem node_im {f : Nat} {V : Value → Value} {I : Im} (AS : List Nat → Array Value) (vs : Option Addr → Nat → Option Addr → Nat → Vals) (hargs : ∀ ids, (args.map (SV.den ρ ids)).toArray = AS ids) (hcall : ∀ ids w, pre <+: ids → Facts C m ρ ids hx w → Calls C.P f (AS ids) w (ImNew w V I))
    (hr : ∀ a1 c1 a2 c2 ids, r.den (ρ.add (vs a1 c1 a2 c2)) ids = V (imV I a1 c1 a2 c2)) (hhp : m'.hp = m.hp) (hfit : hpFits m.c m.hp.length m.hp = true) (hc : ∀ a1 c1 a2 c2, (ρ.add (vs a1 c1 a2 c2)).cnt = m'.c) (h1 : ∀ a1 c1 a2 c2 v, v ∈ (vs a1 c1 a2 c2).v → v.oneCell' = true)
    (h : ∀ a1 c1 a2 c2 es, es.map SE.s = I.tb → Dj a2 c2 es → Sm a2 es → (∀ q, (tabR a2 c2 es).F q → ¬ (HX.cl a1 (I.mem.map (Value.int .i64))).F q) → (∀ k, (imX I a1 a2 c2 es).F k → C.W.heap.size ≤ k ∧ ¬ hx.F k) → t.holds C (ρ.add (vs a1 c1 a2 c2)) pre (hx.and (imX I a1 a2 c2 es)) L) : (Tree.call f args m r m' t).holds C ρ pre hx L := by
  refine node_out AS (fun u hy => ∃ a1 c1 a2 c2 es, es.map SE.s = I.tb ∧ Dj a2 c2 es ∧ Sm a2 es ∧ (∀ q, (tabR a2 c2 es).F q → ¬ (HX.cl a1 (I.mem.map (Value.int .i64))).F q) ∧ u = vs a1 c1 a2 c2 ∧ hy = imX I a1 a2 c2 es) hargs (fun ids w hp hf => ?_) hhp hfit ?_ ?_
  · refine (hcall ids w hp hf).mono ?_
    rintro e w' ⟨a1, c1, a2, c2, es, h1, rfl, h2, hd, hX, hge, hb⟩
    exact ⟨_, _, ⟨a1, c1, a2, c2, es, h1, h2, ⟨fun q => rw_sm hX.2.2 (sec_ne q), fun e he q => rw_sm (hX.2.1 e he) (kc_ne q)⟩, hd, rfl, rfl⟩, by rw [hr], hX, fun k hk => ⟨hge k hk, imX_lt hX k hk⟩, hb⟩
  · rintro u hy ⟨a1, c1, a2, c2, es, _, _, _, _, rfl, rfl⟩
    exact ⟨hc _ _ _ _, h1 _ _ _ _⟩
  · rintro u hy ⟨a1, c1, a2, c2, es, q1, q2, q3, q4, rfl, rfl⟩ hfr
    exact h a1 c1 a2 c2 es q1 q2 q3 q4 hfr
end
theorem xfirst_any (a : Option Addr) (cap : Nat) (xs : List Int) (w : World) (H : Ints w a xs) (hl : xs.length ≤ 17592186044416) : Calls Try.prog 15 #[.slice a xs.length cap] w (ImNew w id ⟨0, xs, 0, im0.regs, []⟩) := by
  refine calls_at (tab_ok _) Try.func15 rfl tXFirst (ρ := ⟨[], [], [], [xs.length, cap], [a]⟩) (ids := []) (hx := HX.nil) rfl (Facts.initP rfl oneNil) ?_
  refine node_cl (n := xs.length) (xs := xs.map (Value.int .i64)) (fun _ => #[.slice a xs.length cap]) (fun a' c' => ⟨[], [], [], [xs.length, c'], [a']⟩) (by intros; kernel_rfl) (fun ids w2 hp hf => scloneN_any a cap xs w2 (cl_stay H.cells (fun k hk => hf.chg.block k hk (fun q => q))) hl) (by intros; kernel_rfl) (by kernel_rfl) (by kernel_rfl) (by intros; kernel_rfl) (fun _ _ => oneNil) ?_
  intro a1 c1 hn
  intro ids w2 hp hf
  refine ⟨a1, c1, none, 0, [], rfl, by kernel_rfl, ⟨fun i j e e' _ h => by simp at h, fun e he => (by cases he)⟩, (fun q hq => by
    rcases hq with ⟨e, he, _⟩ | hq
    · cases he
    · exact absurd rfl hq.1), ⟨hf.x.2, ⟨fun e he => (by cases he), HX.rw_nil _ _ _ _⟩⟩, ?_, hf.chg.below⟩
  rintro k (hk | ⟨e, he, _⟩ | hk)
  · exact (hn k hk).1
  · cases he
  · exact absurd rfl hk.1
theorem xvalid_any (I : Im) (a1 : Option Addr) (c1 : Nat) (a2 : Option Addr) (c2 : Nat) (es : List SE) (w : World) (H : ImAt w I a1 a2 es) (hl : es.length ≤ 4611686018427387904) : Calls Try.prog 34 #[imV I a1 c1 a2 c2] w (PureAt w (.bool (validI I))) := by
  refine calls_at (tab_ok _) Try.func34 rfl tXValid (ρ := ⟨imI I, [], [], [I.mem.length, c1, I.tb.length, c2], [a1, a2]⟩) (ids := []) (hx := HX.nil) (by kernel_rfl) (Facts.initP rfl oneNil) ?_
  obtain ⟨V, eV⟩ : ∃ V, V = validI I := ⟨_, rfl⟩
  rw [← eV]
  have keep : ∀ {m : Mem} {ρ : Env} {ids : List Nat} {hx : HX} {w2 : World} {R : Ending → World → Prop}, Facts ⟨Try.prog, w, fun _ => False, R⟩ m ρ ids hx w2 → ImAt w2 I a1 a2 es := fun hf => H.keep (fun k hk => hf.chg.block k hk (fun q => q))
  unfold validI at eV
  by_cases h1 : 0 ≤ I.ep
  case' neg => exact br_F (decide (I.ep ≥ 0)) (by kernel_rfl) (decide_eq_false h1) (pure_done (by intros; rw [show V = false from by rw [eV]; simp [h1]]; kernel_rfl))
  refine br_T (decide (I.ep ≥ 0)) (by kernel_rfl) (decide_eq_true h1) ?_
  by_cases h2 : I.ep ≤ 1099511627776
  case' neg => exact br_F (decide (I.ep ≤ 1099511627776)) (by kernel_rfl) (decide_eq_false h2) (pure_done (by intros; rw [show V = false from by rw [eV]; simp [h2]]; kernel_rfl))
  refine br_T (decide (I.ep ≤ 1099511627776)) (by kernel_rfl) (decide_eq_true h2) ?_
  by_cases h3 : 0 ≤ I.sl
  case' neg => exact br_F (decide (I.sl ≥ 0)) (by kernel_rfl) (decide_eq_false h3) (pure_done (by intros; rw [show V = false from by rw [eV]; simp [h3]]; kernel_rfl))
  refine br_T (decide (I.sl ≥ 0)) (by kernel_rfl) (decide_eq_true h3) ?_
  by_cases h4 : I.sl ≤ 1099511627776
  case' neg => exact br_F (decide (I.sl ≤ 1099511627776)) (by kernel_rfl) (decide_eq_false h4) (pure_done (by intros; rw [show V = false from by rw [eV]; simp [h4]]; kernel_rfl))
  refine br_T (decide (I.sl ≤ 1099511627776)) (by kernel_rfl) (decide_eq_true h4) ?_
  refine node_P ⟨[checkV I.mem], [], [], [], []⟩ #[.slice a1 I.mem.length c1] (.int .i64 (checkV I.mem)) (by intros; kernel_rfl) (by intros; kernel_rfl) (by kernel_rfl) (by kernel_rfl) (by kernel_rfl) oneNil (fun ids w2 hp hf => (check_any a1 c1 I.mem w2 (keep hf).mem).mono fun e w3 h => ⟨h.1, h.2 ▸ Below.refl _ _⟩) ?_
  by_cases h5 : checkV I.mem = 0
  case' neg => exact br_F (checkV I.mem == 0) (by kernel_rfl) (by simpa using h5) (pure_done (by intros; rw [show V = false from by rw [eV]; simp [h5]]; kernel_rfl))
  refine br_T (checkV I.mem == 0) (by kernel_rfl) (by simpa using h5) ?_
  refine node_P ⟨[], [validL I.regs], [], [], []⟩ #[.agg ((rgs I.regs).map (Value.int .i64)).toArray] (.bool (validL I.regs)) (by intros; kernel_rfl) (by intros; kernel_rfl) (by kernel_rfl) (by kernel_rfl) (by kernel_rfl) oneNil (fun ids w2 hp hf => by have := valid_any (rgs I.regs) rfl w2; rw [rgs_of H.reg] at this ⊢; exact this) ?_
  by_cases h6 : validL I.regs = true
  case' neg => exact br_F (validL I.regs) (by kernel_rfl) (by simpa using h6) (pure_done (by intros; rw [show V = false from by rw [eV]; simp [h6]]; kernel_rfl))
  refine br_T (validL I.regs) (by kernel_rfl) h6 ?_
  refine node_P ⟨[], [validT I.tb], [], [], []⟩ #[.slice a2 I.tb.length c2] (.bool (validT I.tb)) (by intros; kernel_rfl) (by intros; kernel_rfl) (by kernel_rfl) (by kernel_rfl) (by kernel_rfl) oneNil (fun ids w2 hp hf => by have := tvalid_any a2 c2 es w2 (keep hf).tab hl; rw [H.tb, H.len] at this; exact this) ?_
  exact pure_done (by intros; rw [show V = validT I.tb from by rw [eV]; simp [h1, h2, h3, h4, h5, h6]]; kernel_rfl)
theorem VI.fit {I : Im} (h : VI I) : I.mem.length ≤ 7 ∧ I.tb.length ≤ 16 := ⟨by
  have := setOkB_iff.1 h.mem; exact this.2.1, h.tb.len⟩
theorem xclone_any (I : Im) (a1 : Option Addr) (c1 : Nat) (a2 : Option Addr) (c2 : Nat) (es : List SE) (w : World) (H : ImAt w I a1 a2 es) (hl : I.mem.length ≤ 17592186044416) (hl2 : es.length ≤ 1000000) (hk : ∀ e ∈ es, e.s.kept.length ≤ 1000000) : Calls Try.prog 35 #[imV I a1 c1 a2 c2] w (ImNew w id I) := by
  refine calls_at (tab_ok _) Try.func35 rfl tXClone (ρ := ⟨imI I, [], [], [I.mem.length, c1, I.tb.length, c2], [a1, a2]⟩) (ids := []) (hx := HX.nil) (by kernel_rfl) (Facts.initP rfl oneNil) ?_
  have keep : ∀ {m : Mem} {ρ : Env} {ids : List Nat} {hx : HX} {w2 : World} {R : Ending → World → Prop}, Facts ⟨Try.prog, w, fun _ => False, R⟩ m ρ ids hx w2 → ImAt w2 I a1 a2 es := fun hf => H.keep (fun k hk => hf.chg.block k hk (fun q => q))
  refine node_cl (n := I.mem.length) (xs := I.mem.map (Value.int .i64)) (fun _ => #[.slice a1 I.mem.length c1]) (fun a' c' => ⟨[], [], [], [I.mem.length, c'], [a']⟩) (by intros; kernel_rfl) (fun ids w2 hp hf => scloneN_any a1 c1 I.mem w2 (keep hf).mem.cells hl) (by intros; kernel_rfl) (by kernel_rfl) (by kernel_rfl) (by intros; kernel_rfl) (fun _ _ => oneNil) ?_
  intro b1 d1 hn1
  refine node_tb (V := id) (tb := I.tb) (fun _ => #[.slice a2 I.tb.length c2]) (fun a' c' => ⟨[], [], [], [I.tb.length, c'], [a']⟩) (by intros; kernel_rfl) (fun ids w2 hp hf => by
    have := tclone_any a2 c2 es w2 (keep hf).tab hl2 hk
    rw [H.tb, H.len] at this; exact this) (by intros; kernel_rfl) (by kernel_rfl) (by kernel_rfl) (by intros; kernel_rfl) (fun _ _ => oneNil) ?_
  intro b2 d2 es2 hm hdj hsm hn2
  intro ids w2 hp hf
  refine ⟨b1, d1, b2, d2, es2, hm, by kernel_rfl, hdj, fun q hq hk => (hn2 q hq).2 (.inr hk), ⟨hf.x.1.2, hf.x.2⟩, ?_, hf.chg.below⟩
  rintro k (hk | hk)
  · exact (hn1 k hk).1
  · exact (hn2 k hk).1
end Go.Proofs.Ytbedoemdjlollaa

namespace Go.Proofs.Ytbedoemdjlollaa
open Go.ChangeShapes Go.WideShapes Go.ChangeAt Go.RowKit Go.Syn Go.Eng
set_option linter.unusedVariables false
set_option linter.unusedSimpArgs false
set_option maxRecDepth 100000
def RunNew (w : World) (b : Nat) (I : Im) (a1 : Option Addr) (c1 : Nat) (V : Value) (e : Ending) (w' : World) : Prop := ∃ a2 c2 es, es.map SE.s = I.tb ∧ e = .returned V ∧ Blk w' b (imC I a1 c1 a2 c2) 54 ∧ Dj a2 c2 es ∧ (tabR a2 c2 es).X w' ∧ (∀ k, (tabR a2 c2 es).F k → w.heap.size ≤ k) ∧ w.grownBy w' (some b)
def resC (R : RunR) : Value := .agg #[.int .i64 R.k, .int .i64 R.re, .int .i64 R.im]
theorem xrun_any (b : Nat) (I : Im) (a1 : Option Addr) (c1 : Nat) (a2 : Option Addr) (c2 : Nat) (es : List SE) (c : CmD) (w : World) (hb : Blk w b (imC I a1 c1 a2 c2) 54) (H : TbAt w a2 es) (hes : es.map SE.s = I.tb) (hv : VT I.tb) (hr : I.regs.length = 16) (hc : cmdV c = 0) :
    Calls Try.prog 36 #[.pointer (some ⟨b, 0, none⟩), .agg c.cells.toArray] w (RunNew w b (runV I c).i a1 c1 (resC (runV I c))) := by
  refine calls_at (tab_ok _) Try.func36 rfl tXRun (ρ := ⟨imI I ++ c.is, [], [], [I.mem.length, c1, I.tb.length, c2], [a1, a2]⟩) (ids := [b]) (hx := HX.nil) (by kernel_rfl) (Facts.init1 rfl oneNil hb (by kernel_rfl)) ?_
  have hlen : es.length = I.tb.length := by rw [← hes, List.length_map]
  obtain ⟨h1, h2, h3, h4, h5, h6, h7⟩ := opB_of hc
  have hat := hv.ask (sess := c.sess) (seq := c.seq) (ack := c.ack) h1 h2 (by omega)
  obtain ⟨Q, eQ⟩ : ∃ Q, Q = runV I c := ⟨_, rfl⟩
  rw [← eQ]
  unfold runV at eQ
  obtain ⟨A, eA⟩ : ∃ A, A = askV I.tb c.sess c.seq c.ack := ⟨_, rfl⟩
  rw [← eA] at eQ hat
  obtain ⟨p, ep⟩ : ∃ p, p = applyM I.regs c.op := ⟨_, rfl⟩
  rw [← ep] at eQ
  have hpl : p.1.length = 16 := by rw [ep]; exact (applyM_len _ _).trans hr
  refine par_i ?_ ?_
  all_goals
    refine node_tb (V := askRet A.k A.re A.im A.d) (tb := A.t) (fun _ => #[.slice a2 I.tb.length c2, cmdC c.sess c.seq c.ack c.op.kind c.op.reg c.op.tg c.op.re c.op.im]) (fun a' c' => ⟨[A.k, A.re, A.im], [A.d], [], [A.t.length, c'], [a']⟩) (by intros; kernel_rfl) (fun ids w2 hp hf => by
      have hbb : w2.heap[b]? = w.heap[b]? := by
        have := hf.blkAt 0 rfl
        rw [idAt0 hp] at this
        exact this.trans (Eq.trans (by kernel_rfl) hb.symm)
      have := task_any a2 c2 es c.sess c.seq c.ack c.op.kind c.op.reg c.op.tg c.op.re c.op.im w2 (H.keep (fun k hk => by
        by_cases q : k = b
        · rw [q]; exact hbb
        · exact hf.chg.block k hk q)) (by rw [hes]; exact hv.ok)
      rw [hes, ← eA, hlen] at this
      exact this) (by intros; kernel_rfl) (by kernel_rfl) (by kernel_rfl) (by intros; kernel_rfl) (fun _ _ => oneNil) ?_
    intro a' c' es' hm' hdj' hsm' hn'
    have hl' : es'.length = A.t.length := by rw [← hm', List.length_map]
    rcases Bool.eq_false_or_eq_true A.d with hd | hd
    · refine br_F (!A.d) (by kernel_rfl) (by rw [hd]; rfl) ?_
      rw [if_pos hd] at eQ
      intro ids w2 hp hf
      have hblk := hf.blkAt 0 rfl
      rw [idAt0 hp] at hblk
      subst eQ
      exact ⟨a', c', es', hm', by kernel_rfl, hblk.trans (by kernel_rfl), hdj', hf.x.2, fun k hk => (hn' k hk).1, hf.chg.grown⟩
    · refine br_T (!A.d) (by kernel_rfl) (by rw [hd]; rfl) ?_
      rw [if_neg (by rw [hd]; decide)] at eQ
      refine node_P ⟨rgs p.1 ++ [p.2.1, p.2.2.1, p.2.2.2], [], [], [], []⟩ #[.agg ((rgs I.regs).map (Value.int .i64)).toArray, .agg c.op.cells.toArray] (resV p) (by intros; kernel_rfl) (fun ids => Eq.trans (b := resV (rgs p.1, p.2)) (by kernel_rfl) (by unfold resV; rw [rgs_of hpl])) (by kernel_rfl) (by kernel_rfl) (by kernel_rfl) oneNil (fun ids w2 hp hf => by
        have := apply_any (rgs I.regs) rfl c.op w2
        rw [rgs_of hr] at this ⊢
        rw [ep]; exact this) ?_
      refine node_tb (V := id) (tb := keepV A.t c.sess c.seq p.2.1 p.2.2.1 p.2.2.2) (fun _ => #[.slice a' A.t.length c', cmdC c.sess c.seq c.ack c.op.kind c.op.reg c.op.tg c.op.re c.op.im, .agg #[.int .i64 p.2.1, .int .i64 p.2.2.1, .int .i64 p.2.2.2]]) (fun a3 c3 => ⟨[], [], [], [(keepV A.t c.sess c.seq p.2.1 p.2.2.1 p.2.2.2).length, c3], [a3]⟩) (by intros; kernel_rfl) (fun ids w2 hp hf => by
        have := tkeep_any a' c' es' c.sess c.seq c.ack c.op.kind c.op.reg c.op.tg c.op.re c.op.im p.2.1 p.2.2.1 p.2.2.2 w2 (tabR_at hf.x.2) (by rw [hm']; exact hat.ok)
        rw [hm', hl'] at this
        exact this) (by intros; kernel_rfl) (by kernel_rfl) (by kernel_rfl) (by intros; kernel_rfl) (fun _ _ => oneNil) ?_
      intro a3 c3 es3 hm3 hdj3 hsm3 hn3
      intro ids w2 hp hf
      have hblk := hf.blkAt 0 rfl
      rw [idAt0 hp] at hblk
      subst eQ
      exact ⟨a3, c3, es3, hm3, by kernel_rfl, hblk.trans (by kernel_rfl), hdj3, hf.x.2, fun k hk => (hn3 k hk).1, hf.chg.grown⟩
end Go.Proofs.Ytbedoemdjlollaa

namespace Go.Proofs.Ytbedoemdjlollaa
open Go.ChangeShapes Go.WideShapes Go.ChangeAt Go.RowKit Go.Syn Go.Eng
set_option linter.unusedVariables false
set_option linter.unusedSimpArgs false
set_option maxRecDepth 100000
def exX (R : ExR) (a1 a2 : Option Addr) (c2 : Nat) (es : List SE) (oa : Option Addr) : HX := (imX R.i a1 a2 c2 es).and (HX.cl oa (ancells R.an))
def exRet (R : ExR) (a1 : Option Addr) (c1 : Nat) (a2 : Option Addr) (c2 : Nat) (oa : Option Addr) (oc : Nat) : Value := .tuple #[imV R.i a1 c1 a2 c2, .slice oa R.an.length oc, .int .i64 R.e]
def ExNew (w : World) (R : ExR) (e : Ending) (w' : World) : Prop := ∃ a1 c1 a2 c2 es oa oc, es.map SE.s = R.i.tb ∧ e = .returned (exRet R a1 c1 a2 c2 oa oc) ∧ Dj a2 c2 es ∧ (exX R a1 a2 c2 es oa).X w' ∧ (∀ k, (exX R a1 a2 c2 es oa).F k → w.heap.size ≤ k) ∧ Below w.heap.size w w'
theorem exX_lt {R : ExR} {a1 a2 : Option Addr} {c2 : Nat} {es : List SE} {oa : Option Addr} {w : World} (h : (exX R a1 a2 c2 es oa).X w) : ∀ k, (exX R a1 a2 c2 es oa).F k → k < w.heap.size := fun k hk => hk.elim (imX_lt h.1 k) (cl_sep h.2 k)
theorem dj_nil (a : Option Addr) (c : Nat) : Dj a c [] := ⟨fun i j e e' _ h => by simp at h, fun e he => (by cases he)⟩
theorem ex_err {W : World} {ρ : Env} {pre : List Nat} {hx : HX} {L : Stack} {v : SV} {m : Mem} (x : Int) (hv : ∀ ids, v.den ρ ids = exRet ⟨im0, [], x⟩ none 0 none 0 none 0) : (Tree.done v m).holds ⟨Try.prog, W, fun _ => False, ExNew W ⟨im0, [], x⟩⟩ ρ pre hx L := fun ids w2 hp hf => by
  refine ⟨none, 0, none, 0, [], none, 0, rfl, by rw [hv ids], dj_nil _ _, ⟨⟨cl_nil _ _, ⟨fun e he => (by cases he), HX.rw_nil _ _ _ _⟩⟩, cl_nil _ _⟩, ?_, hf.chg.below⟩
  rintro k ((hk | ⟨e, he, _⟩ | hk) | hk)
  · exact absurd rfl hk.1
  · cases he
  · exact absurd rfl hk.1
  · exact absurd rfl hk.1
theorem an_sm {l : List AnD} {i : Nat} {x : AnD} {a : Option Addr} {w : World} (H : Cells w a (ancells l)) (h : l[i]? = some x) : a.isSome = true :=
  (flat_part an_len H h (o := 0) x.cells (fun j u hj => by rw [Nat.zero_add]; exact hj) (by simp [AnD.cells])).1
section
variable {C : Cfg} {ρ : Env} {pre : List Nat} {hx : HX} {L : Stack} {m m' : Mem} {args : List SV} {r : SV} {t : Tree}
theorem node_ex {f : Nat} {R : ExR} (AS : List Nat → Array Value) (hargs : ∀ ids, (args.map (SV.den ρ ids)).toArray = AS ids) (hcall : ∀ ids w, pre <+: ids → Facts C m ρ ids hx w → Calls C.P f (AS ids) w (ExNew w R))
    (hr : ∀ a1 c1 a2 c2 oa oc ids, r.den (ρ.add ⟨imI R.i ++ [R.e], [], [], [R.i.mem.length, c1, R.i.tb.length, c2, R.an.length, oc], [a1, a2, oa]⟩) ids = exRet R a1 c1 a2 c2 oa oc) (hhp : m'.hp = m.hp) (hfit : hpFits m.c m.hp.length m.hp = true)
    (hc : ∀ a1 c1 a2 c2 oa oc, (ρ.add ⟨imI R.i ++ [R.e], [], [], [R.i.mem.length, c1, R.i.tb.length, c2, R.an.length, oc], [a1, a2, oa]⟩).cnt = m'.c)
    (h : ∀ a1 c1 a2 c2 es oa oc, es.map SE.s = R.i.tb → Dj a2 c2 es → Sm a2 es → (R.an ≠ [] → oa.isSome = true) → (∀ k, (exX R a1 a2 c2 es oa).F k → C.W.heap.size ≤ k ∧ ¬ hx.F k) → t.holds C (ρ.add ⟨imI R.i ++ [R.e], [], [], [R.i.mem.length, c1, R.i.tb.length, c2, R.an.length, oc], [a1, a2, oa]⟩) pre (hx.and (exX R a1 a2 c2 es oa)) L) : (Tree.call f args m r m' t).holds C ρ pre hx L := by
  refine node_out AS (fun u hy => ∃ a1 c1 a2 c2 es oa oc, es.map SE.s = R.i.tb ∧ Dj a2 c2 es ∧ Sm a2 es ∧ (R.an ≠ [] → oa.isSome = true) ∧ u = ⟨imI R.i ++ [R.e], [], [], [R.i.mem.length, c1, R.i.tb.length, c2, R.an.length, oc], [a1, a2, oa]⟩ ∧ hy = exX R a1 a2 c2 es oa) hargs (fun ids w hp hf => ?_) hhp hfit ?_ ?_
  · refine (hcall ids w hp hf).mono ?_
    rintro e w' ⟨a1, c1, a2, c2, es, oa, oc, h1, rfl, h2, hX, hge, hb⟩
    exact ⟨_, _, ⟨a1, c1, a2, c2, es, oa, oc, h1, h2, ⟨fun q => rw_sm hX.1.2.2 (sec_ne q), fun e he q => rw_sm (hX.1.2.1 e he) (kc_ne q)⟩, fun q => (by
      cases hq : R.an with
      | nil => exact absurd hq q
      | cons x l => exact an_sm (i := 0) (x := x) hX.2 (by rw [hq]; rfl)), rfl, rfl⟩, by rw [hr], hX, fun k hk => ⟨hge k hk, exX_lt hX k hk⟩, hb⟩
  · rintro u hy ⟨a1, c1, a2, c2, es, oa, oc, _, _, _, _, rfl, rfl⟩
    exact ⟨hc _ _ _ _ _ _, oneNil⟩
  · rintro u hy ⟨a1, c1, a2, c2, es, oa, oc, q1, q2, q3, q4, rfl, rfl⟩ hfr
    exact h a1 c1 a2 c2 es oa oc q1 q2 q3 q4 hfr
end
theorem valE_zero {v : Vl} (h : valE v = 0) : (v.k = 0 ∧ v.cs = [] ∧ v.ns = []) ∨ (v.k = 2 ∧ v.cs = [] ∧ setOkB v.ns = true) ∨ (v.k = 1 ∧ v.cs.length ≤ 8 ∧ v.cs ≠ [] ∧ v.ns = [] ∧ firstE v.cs = 0) := by
  unfold valE at h
  split at h
  · rename_i h0
    by_cases q : v.cs ≠ [] ∨ v.ns ≠ []
    · rw [if_pos q] at h; cases h
    · simp only [not_or, Classical.not_not] at q
      exact .inl ⟨h0, q.1, q.2⟩
  · split at h
    · rename_i h2
      by_cases q : v.cs ≠ []
      · rw [if_pos q] at h; cases h
      · rw [if_neg q] at h
        simp only [Classical.not_not] at q
        exact .inr (.inl ⟨h2, q, check_zero.1 h⟩)
    · split at h
      · rename_i h1
        by_cases q : v.cs = [] ∨ 8 < v.cs.length ∨ v.ns ≠ []
        · rw [if_pos q] at h; cases h
        · rw [if_neg q] at h
          simp only [not_or, Classical.not_not] at q
          exact .inr (.inr ⟨h1, by omega, q.1, q.2.2, h⟩)
      · cases h
def ExJ (I : Im) (slot : Int) (v : Vl) (vs : Vals) (hx : HX) : Prop := VI I ∧ slot = I.sl + 1 ∧ slot ≤ 1099511627776 ∧ ¬ (v.k = 2 ∧ 1099511627776 ≤ I.ep) ∧ vs = ⟨[], [], [], [], []⟩ ∧ hx = HX.nil
def ExI (W : World) (G : Im) (cs : List CmD) (b1 : Option Addr) (d1 : Nat) (vs : Vals) (hx : HX) : Prop := ∃ (k : Nat) (a2 : Option Addr) (c2 : Nat) (es : List SE) (oa : Option Addr) (oc : Nat), k ≤ cs.length ∧ es.map SE.s = (runAll G (cs.take k)).1.tb ∧ Dj a2 c2 es ∧
  (∀ q, (tabR a2 c2 es).F q → W.heap.size ≤ q ∧ ¬ ((HX.cl b1 (G.mem.map (Value.int .i64))).and (HX.rw 5 64 oa k oc (ancells (runAll G (cs.take k)).2))).F q) ∧ (∀ q, (HX.rw 5 64 oa k oc (ancells (runAll G (cs.take k)).2)).F q → W.heap.size ≤ q ∧ ¬ (HX.cl b1 (G.mem.map (Value.int .i64))).F q) ∧
  vs = ⟨(k : Int) :: imI (runAll G (cs.take k)).1, [], [], [k, oc, G.mem.length, d1, (runAll G (cs.take k)).1.tb.length, c2], [oa, b1, a2]⟩ ∧ hx = ((HX.cl b1 (G.mem.map (Value.int .i64))).and (HX.rw 5 64 oa k oc (ancells (runAll G (cs.take k)).2))).and (tabR a2 c2 es)
set_option maxHeartbeats 2000000 in
theorem xexec_any (I : Im) (a1 : Option Addr) (c1 : Nat) (a2 : Option Addr) (c2 : Nat) (es : List SE) (slot : Int) (v : Vl) (b1 : Option Addr) (d1 : Nat) (b2 : Option Addr) (d2 : Nat) (w : World) (H : ImAt w I a1 a2 es) (hl : es.length ≤ 4611686018427387904) (hm : I.mem.length ≤ 17592186044416) (HV : VlAt w v b1 b2) :
    Calls Try.prog 17 #[imV I a1 c1 a2 c2, .int .i64 slot, vlV v b1 d1 b2 d2] w (ExNew w (execV I slot v)) := by
  refine calls_at (tab_ok _) Try.func17 rfl tXExec (ρ := ⟨imI I ++ [slot, v.k], [], [], [I.mem.length, c1, I.tb.length, c2, v.cs.length, d1, v.ns.length, d2], [a1, a2, b1, b2]⟩) (ids := []) (hx := HX.nil) (by kernel_rfl) (Facts.initP rfl oneNil) ?_
  obtain ⟨R, eR⟩ : ∃ R, R = execV I slot v := ⟨_, rfl⟩
  rw [← eR]
  unfold execV at eR
  have keep : ∀ {m : Mem} {ρ : Env} {ids : List Nat} {hx : HX} {w2 : World} {R : Ending → World → Prop}, Facts ⟨Try.prog, w, fun _ => False, R⟩ m ρ ids hx w2 → ImAt w2 I a1 a2 es := fun hf => H.keep (fun k hk => hf.chg.block k hk (fun q => q))
  have keepV : ∀ {m : Mem} {ρ : Env} {ids : List Nat} {hx : HX} {w2 : World} {R : Ending → World → Prop}, Facts ⟨Try.prog, w, fun _ => False, R⟩ m ρ ids hx w2 → VlAt w2 v b1 b2 := fun hf => HV.fit.at_ ((vlX v b1 b2).loc _ _ HV.X fun k hk => hf.chg.block k (vlX_sep HV.X k hk) (fun q => q))
  refine ⟨ExJ I slot v, ?_, ?_⟩
  · refine node_P ⟨[], [validI I], [], [], []⟩ #[imV I a1 c1 a2 c2] (.bool (validI I)) (by intros; kernel_rfl) (by intros; kernel_rfl) (by kernel_rfl) (by kernel_rfl) (by kernel_rfl) oneNil (fun ids w2 hp hf => xvalid_any I a1 c1 a2 c2 es w2 (keep hf) hl) ?_
    rcases Bool.eq_false_or_eq_true (validI I) with hv | hv
    case' inr =>
      rw [if_pos hv] at eR
      subst eR
      exact br_T (!validI I) (by kernel_rfl) (by rw [hv]; rfl) (ex_err 44 (by intros; kernel_rfl))
    rw [if_neg (by rw [hv]; decide)] at eR
    have hI := (validI_iff I).1 hv
    refine br_F (!validI I) (by kernel_rfl) (by rw [hv]; rfl) ?_
    have hw : IntKind.i64.wrap (I.sl + 1) = I.sl + 1 := by have := hI.sl0; have := hI.sl1; exact wrap_i64 (by omega)
    by_cases h1 : slot = I.sl + 1
    case' neg =>
      rw [if_pos (.inl h1)] at eR
      subst eR
      exact br_T (slot != IntKind.i64.wrap (I.sl + 1)) (by kernel_rfl) (by rw [hw]; simpa using h1) (ex_err 61 (by intros; kernel_rfl))
    refine br_F (slot != IntKind.i64.wrap (I.sl + 1)) (by kernel_rfl) (by rw [hw]; simpa using h1) ?_
    by_cases h2 : 1099511627776 < slot
    case' pos =>
      rw [if_pos (.inr (.inl h2))] at eR
      subst eR
      exact br_T (decide (slot > 1099511627776)) (by kernel_rfl) (decide_eq_true h2) (ex_err 61 (by intros; kernel_rfl))
    refine br_F (decide (slot > 1099511627776)) (by kernel_rfl) (decide_eq_false h2) ?_
    by_cases h3 : v.k = 2
    · refine br_T (v.k == 2) (by kernel_rfl) (by simpa using h3) ?_
      by_cases h4 : 1099511627776 ≤ I.ep
      · rw [if_pos (.inr (.inr ⟨h3, h4⟩))] at eR
        subst eR
        exact br_T (decide (I.ep ≥ 1099511627776)) (by kernel_rfl) (decide_eq_true h4) (ex_err 61 (by intros; kernel_rfl))
      · refine br_F (decide (I.ep ≥ 1099511627776)) (by kernel_rfl) (decide_eq_false h4) ?_
        exact again_V ⟨[], [], [], [], []⟩ rfl (by intros; kernel_rfl) HX.nil (fun w2 ids hf => HXok.none _ _) ⟨hI, h1, by omega, fun q => h4 q.2, rfl, rfl⟩
    · refine br_F (v.k == 2) (by kernel_rfl) (by simpa using h3) ?_
      exact again_V ⟨[], [], [], [], []⟩ rfl (by intros; kernel_rfl) HX.nil (fun w2 ids hf => HXok.none _ _) ⟨hI, h1, by omega, fun q => h3 q.1, rfl, rfl⟩
  rintro vs hx' hcnt ⟨hI, h1, h2, h3, rfl, rfl⟩
  refine holds_env (ρ' := ⟨imI I ++ [slot, v.k], [], [], [I.mem.length, c1, I.tb.length, c2, v.cs.length, d1, v.ns.length, d2], [a1, a2, b1, b2]⟩) (by kernel_rfl) ?_
  rw [if_neg (by rw [(validI_iff I).2 hI]; decide), if_neg (by simp only [not_or]; exact ⟨fun q => q h1, by omega, h3⟩)] at eR
  refine node_P ⟨[valE v], [], [], [], []⟩ #[vlV v b1 d1 b2 d2] (.int .i64 (valE v)) (by intros; kernel_rfl) (by intros; kernel_rfl) (by kernel_rfl) (by kernel_rfl) (by kernel_rfl) oneNil (fun ids w2 hp hf => vchk_any v b1 d1 b2 d2 w2 (keepV hf)) ?_
  by_cases h4 : valE v = 0
  case' neg =>
    rw [if_pos h4] at eR
    subst eR
    exact br_T (valE v != 0) (by kernel_rfl) (by simpa using h4) (ex_err (valE v) (by intros; kernel_rfl))
  rw [if_neg (fun q => q h4)] at eR
  refine br_F (valE v != 0) (by kernel_rfl) (by simpa using h4) ?_
  have hfit := hI.fit
  refine node_im (V := id) (I := I) (fun _ => #[imV I a1 c1 a2 c2]) (fun x1 y1 x2 y2 => ⟨imI I, [], [], [I.mem.length, y1, I.tb.length, y2], [x1, x2]⟩) (by intros; kernel_rfl) (fun ids w2 hp hf => xclone_any I a1 c1 a2 c2 es w2 (keep hf) hm (by rw [H.len]; omega) (fun e he => by
    have := (hI.tb.each e.s (by rw [← H.tb]; exact List.mem_map_of_mem he)).len; omega)) (by intros; kernel_rfl) (by kernel_rfl) (by kernel_rfl) (by intros; kernel_rfl) (fun _ _ _ _ => oneNil) ?_
  intro x1 y1 x2 y2 es1 hm1 hdj1 hsm1 had1 hn1
  refine holds_eq (show _ = imX I x1 x2 y2 es1 from HX.nil_and _) ?_
  refine holds_env (ρ' := ⟨imI I ++ [slot, v.k, valE v] ++ imI I, [], [], [I.mem.length, c1, I.tb.length, c2, v.cs.length, d1, v.ns.length, d2, I.mem.length, y1, I.tb.length, y2], [a1, a2, b1, b2, x1, x2]⟩) (by kernel_rfl) ?_
  by_cases k2 : v.k = 2
  · refine br_T (v.k == 2) (by kernel_rfl) (by simpa using k2) ?_
    have hcs : v.cs = [] := by rcases valE_zero h4 with q | q | q <;> first | exact q.2.1 | omega
    have hns : setOkB v.ns = true := by
      rcases valE_zero h4 with q | q | q
      · omega
      · exact q.2.2
      · omega
    refine node_cl (n := v.ns.length) (xs := v.ns.map (Value.int .i64)) (fun _ => #[.slice b2 v.ns.length d2]) (fun a' c' => ⟨[], [], [], [v.ns.length, c'], [a']⟩) (by intros; kernel_rfl) (fun ids w2 hp hf => scloneN_any b2 d2 v.ns w2 (keepV hf).n.cells (keepV hf).l2) (by intros; kernel_rfl) (by kernel_rfl) (by kernel_rfl) (by intros; kernel_rfl) (fun _ _ => oneNil) ?_
    intro z1 u1 hz
    have hw : IntKind.i64.wrap (I.ep + 1) = I.ep + 1 := by have := hI.ep0; have := hI.ep1; exact wrap_i64 (by omega)
    rw [hcs] at eR
    intro ids w2 hp hf
    refine ⟨z1, u1, x2, y2, es1, none, 0, by rw [eR]; unfold goI; rw [if_pos k2]; exact hm1, ?_, hdj1, ?_, ?_, hf.chg.below⟩
    · rw [eR]; unfold goI; rw [if_pos k2]
      show _ = Ending.returned (exRet ⟨⟨I.ep + 1, v.ns, slot, I.regs, I.tb⟩, [], 0⟩ _ _ _ _ _ _)
      rw [← hw]; kernel_rfl
    · rw [eR]; unfold goI; rw [if_pos k2]
      exact ⟨⟨hf.x.2, hf.x.1.2⟩, cl_nil _ _⟩
    · rw [eR]; unfold goI; rw [if_pos k2]
      rintro k ((hk | hk) | hk)
      · exact (hz k hk).1
      · exact (hn1 k (.inr hk)).1
      · exact absurd rfl hk.1
  refine br_F (v.k == 2) (by kernel_rfl) (by simpa using k2) ?_
  obtain ⟨G, eG⟩ : ∃ G : Im, G = ⟨I.ep, I.mem, slot, I.regs, I.tb⟩ := ⟨_, rfl⟩
  have hgo : goI I slot v = G := by unfold goI; rw [if_neg k2, eG]
  rw [hgo] at eR
  have hG : VI G := by rw [eG]; exact ⟨hI.ep0, hI.ep1, by have := hI.sl0; show 0 ≤ slot; omega, h2, hI.mem, hI.regs, hI.tb⟩
  have hGr : G.regs.length = 16 := by rw [eG]; exact H.reg
  have hGm : G.mem = I.mem := by rw [eG]
  by_cases k1 : v.k = 1
  case' neg =>
    refine br_F (v.k == 1) (by kernel_rfl) (by simpa using k1) ?_
    have hcs : v.cs = [] := by rcases valE_zero h4 with q | q | q <;> first | exact q.2.1 | omega
    rw [hcs] at eR
    intro ids w2 hp hf
    subst eR
    refine ⟨x1, y1, x2, y2, es1, none, 0, by rw [eG]; exact hm1, by rw [eG]; kernel_rfl, hdj1, by rw [eG]; exact ⟨hf.x, cl_nil _ _⟩, ?_, hf.chg.below⟩
    rw [eG]
    rintro k (hk | hk)
    · exact (hn1 k hk).1
    · exact absurd rfl hk.1
  refine br_T (v.k == 1) (by kernel_rfl) (by simpa using k1) ?_
  obtain ⟨hc8, hcz⟩ : v.cs.length ≤ 8 ∧ firstE v.cs = 0 := by
    rcases valE_zero h4 with q | q | q
    · omega
    · omega
    · exact ⟨q.2.1, q.2.2.2.2⟩
  have hall := firstE_all hcz
  have hrow0 : ∀ q, ¬ (HX.rw 5 64 none 0 0 (ancells [])).F q := fun q hq => absurd rfl hq.1
  refine loop_i (ExI w G v.cs x1 y1) (fun vs => v.cs.length - (vs.i.headD 0).toNat) (fun ids w2 hp hf => ⟨((HX.cl x1 (G.mem.map (Value.int .i64))).and (HX.rw 5 64 none 0 0 (ancells []))).and (tabR x2 y2 es1), ⟨⟨⟨by rw [hGm]; exact hf.x.1, HX.rw_nil _ _ _ _⟩, hf.x.2⟩, ?_⟩, 0, x2, y2, es1, none, 0, Nat.zero_le _, by rw [eG]; exact hm1, hdj1, fun q hq => ⟨(hn1 q (.inr hq)).1, fun z => z.elim (fun z => had1 q hq (by rw [← hGm]; exact z)) (fun z => hrow0 q z)⟩, fun q hq => absurd hq (hrow0 q), by rw [eG]; kernel_rfl, by kernel_rfl⟩) ?_
  · rintro k ((hk | hk) | hk)
    · exact hf.sep k (.inl (by rw [← hGm]; exact hk))
    · exact absurd hk (hrow0 k)
    · exact hf.sep k (.inr hk)
  rintro vs hx' hcnt' ⟨k, a3, c3, es3, oa, oc, hk, hm3, hdj3, hn3, ho3, rfl, rfl⟩
  obtain ⟨J, eJ⟩ : ∃ J, J = runAll G (v.cs.take k) := ⟨_, rfl⟩
  rw [← eJ] at hm3 hn3 ho3 hcnt' ⊢
  have hJ := hG.all hGr hall k
  rw [← eJ] at hJ
  have hJk := runAll_keep G (v.cs.take k) (G, [])
  have hJm : J.1.mem = G.mem := by rw [eJ]; exact hJk.1
  have hJl : J.2.length = k := by rw [eJ]; exact (hJk.2.2.2).trans (by simp; omega)
  have hn3' : es3.length = J.1.tb.length := by rw [← hm3, List.length_map]
  by_cases hlt : k < v.cs.length
  case' neg =>
    refine br_F (decide ((k : Int) < (v.cs.length : Int))) (by kernel_rfl) (decide_eq_false (by omega)) ?_
    have hke : v.cs.take k = v.cs := List.take_of_length_le (by omega)
    rw [hke] at eJ
    rw [← eJ] at eR
    subst eR
    intro ids w2 hp hf
    refine ⟨x1, y1, a3, c3, es3, oa, oc, hm3, ?_, hdj3, ⟨⟨by rw [hJm]; exact hf.x.1.1, hf.x.2⟩, (rw_cells hf.x.1.2)⟩, ?_, hf.chg.below⟩
    · show _ = Ending.returned (Value.tuple #[imV J.1 x1 y1 a3 c3, .slice oa J.2.length oc, .int .i64 0])
      unfold imV imC
      rw [hJl, hJm]; kernel_rfl
    · rintro q ((hq | hq) | hq)
      · rw [hJm] at hq
        exact (hn1 q (.inl (by rw [← hGm]; exact hq))).1
      · exact (hn3 q hq).1
      · exact (ho3 q ((rw_cl hf.x.1.2).2 q hq)).1
  refine br_T (decide ((k : Int) < (v.cs.length : Int))) (by kernel_rfl) (decide_eq_true (by omega)) ?_
  obtain ⟨c, hc⟩ : ∃ c, v.cs[k]? = some c := ⟨_, List.getElem?_eq_getElem hlt⟩
  have hce := c_elt HV.c hc
  refine need_k (b1.isSome = true ∧ (0 : Int) ≤ k ∧ (k : Int) < v.cs.length) (by kernel_rfl) ⟨hce.1, by omega, by omega⟩ ?_
  refine node_ld0 (k := ⟨58, 0, 0, 18, 9⟩) ⟨c.is, [], [], [], []⟩ (.pointer (some (((b1.getD ⟨0, 0, none⟩).add (k * 8)).add 0))) c.cells (by intros; kernel_rfl) (by intros; kernel_rfl) (hce.2 _ (fun q => q)) hcnt' (by kernel_rfl) oneNil ?_
  obtain ⟨Q, eQ⟩ : ∃ Q, Q = runV J.1 c := ⟨_, rfl⟩
  have hQm : Q.i.mem = G.mem := by rw [eQ]; exact (runV_mem J.1 c).1.trans hJm
  refine node_touch (rest := (HX.cl x1 (G.mem.map (Value.int .i64))).and (HX.rw 5 64 oa k oc (ancells J.2))) (h0 := tabR a3 c3 es3) (fun ids => #[.pointer (some ⟨idAt ids 0, 0, none⟩), .agg c.cells.toArray]) (fun vs h' => ∃ a4 c4 es4, es4.map SE.s = Q.i.tb ∧ Dj a4 c4 es4 ∧ (∀ q, (tabR a4 c4 es4).F q → w.heap.size ≤ q) ∧ vs = ⟨imI Q.i ++ [Q.k, Q.re, Q.im], [], [], [G.mem.length, y1, Q.i.tb.length, c4], [x1, a4]⟩ ∧ h' = tabR a4 c4 es4) rfl rfl (by intros; kernel_rfl) (fun ids w2 hp hf => ?_) (fun q hq => ⟨(hn3 q hq).2, .inl (hn3 q hq).1⟩) (by kernel_rfl) ?_ ?_
  · have hb0 := hf.blkAt 0 rfl
    have := xrun_any (idAt ids 0) J.1 x1 y1 a3 c3 es3 c w2 (hb0.trans (Eq.trans (b := some (.cells (imC ⟨J.1.ep, G.mem, J.1.sl, J.1.regs, J.1.tb⟩ x1 y1 a3 c3).toArray 54 (0, 0))) (by kernel_rfl) (by unfold imC; rw [hJm]))) (tabR_at hf.x.2) hm3 hJ.1.tb hJ.2 (hall c (List.mem_of_getElem? hc))
    rw [← eQ] at this
    refine this.mono ?_
    rintro e w3 ⟨a4, c4, es4, q1, rfl, q2, q3, q4, q5, q6⟩
    refine ⟨_, _, ⟨a4, c4, es4, q1, q3, fun q hq => Nat.le_trans hf.chg.size (q5 q hq), rfl, rfl⟩, by kernel_rfl, q2.trans (Eq.trans (b := some (.cells (imC ⟨Q.i.ep, G.mem, Q.i.sl, Q.i.regs, Q.i.tb⟩ x1 y1 a4 c4).toArray 54 (0, 0))) (by unfold imC; rw [hQm]) (by kernel_rfl)), q4, fun q hq => ⟨.inr (q5 q hq), tabR_lt q4 q hq⟩, chg_of_grown (.inl rfl) q6⟩
  · rintro vs h' ⟨a4, c4, es4, _, _, _, rfl, rfl⟩
    exact ⟨by kernel_rfl, oneNil⟩
  rintro vs h' ⟨a4, c4, es4, hm4, hdj4, hn4, rfl, rfl⟩ hap4
  refine holds_eq (HX.and_right_comm _ _ _) ?_
  refine node_pushs (z := .agg #[.int .i64 0, .int .i64 0, .int .i64 0, .int .i64 0, .int .i64 0]) (sz := 5) (bytes := 40) rfl (by kernel_rfl) info_ans rfl (by decide) oa k oc (ancells J.2) (AnD.cells ⟨c.sess, c.seq, Q.k, Q.re, Q.im⟩) 4 (by intros; kernel_rfl) (by intros; kernel_rfl) rfl (by intros; kernel_rfl) rfl (an_one _) (fun q h1 h2 hF => ?_) (fun q h1 h2 => .inl (ho3 q ⟨h1, h2⟩).1) (by simp [maxLen]; omega) (by omega) (by intros; kernel_rfl) (by kernel_rfl) (by kernel_rfl) (by intros; kernel_rfl) ?_
  · rcases hF with hF | hF
    · exact (ho3 q ⟨h1, h2⟩).2 hF
    · exact (hap4 q hF).1 (.inr ⟨h1, h2⟩)
  intro oa' oc' hoc hdis hwh
  have hstep : runAll G (v.cs.take (k + 1)) = (Q.i, J.2 ++ [⟨c.sess, c.seq, Q.k, Q.re, Q.im⟩]) := by rw [runAll_step G hc, ← eJ, eQ]; rfl
  have hwk : IntKind.i64.wrap ((k : Int) + 1) = ((k + 1 : Nat) : Int) := by rw [wrap_i64 (by omega)]; omega
  rw [ancells_snoc]
  refine again_V ⟨((k + 1 : Nat) : Int) :: imI Q.i, [], [], [k + 1, oc', G.mem.length, y1, Q.i.tb.length, c4], [oa', x1, a4]⟩ rfl (fun ids => Eq.trans (b := ⟨IntKind.i64.wrap ((k : Int) + 1) :: imI Q.i, [], [], [k + 1, oc', G.mem.length, y1, Q.i.tb.length, c4], [oa', x1, a4]⟩) (by kernel_rfl) (by rw [hwk])) (((HX.cl x1 (G.mem.map (Value.int .i64))).and (HX.rw 5 64 oa' (k + 1) oc' (ancells (J.2 ++ [⟨c.sess, c.seq, Q.k, Q.re, Q.im⟩])))).and (tabR a4 c4 es4)) (fun w2 ids hf => ?_) ⟨⟨k + 1, a4, c4, es4, oa', oc', hlt, by rw [hstep]; exact hm4, hdj4, fun q hq => ⟨hn4 q hq, ?_⟩, fun q hq => ⟨?_, ?_⟩, by rw [hstep], by rw [hstep]⟩, ?_⟩
  · exact ⟨⟨⟨hf.x.1.1, hf.x.2⟩, hf.x.1.2⟩, fun q hq => hf.sep q (hq.elim (fun z => z.elim (fun z => .inl (.inl z)) .inr) (fun z => .inl (.inr z)))⟩
  · rw [hstep]
    rintro (z | z)
    · exact (hap4 q hq).1 (.inl z)
    · exact hdis q z.2 (.inr hq)
  · rw [hstep] at hq
    rcases hwh with ⟨z1, z2⟩ | ⟨g, z1, z2, z3⟩
    · exact (ho3 q ⟨z1, by rw [← z2]; exact hq.2⟩).1
    · rw [hq.2] at z1; cases z1; exact z2
  · rw [hstep] at hq
    exact fun z => hdis q hq.2 (.inl z)
  · show v.cs.length - (((k + 1 : Nat) : Int)).toNat < v.cs.length - ((k : Int)).toNat
    omega
end Go.Proofs.Ytbedoemdjlollaa

namespace Go.Proofs.Ytbedoemdjlollaa
open Go.ChangeShapes Go.WideShapes Go.ChangeAt Go.RowKit Go.Syn Go.Eng
set_option linter.unusedVariables false
set_option linter.unusedSimpArgs false
set_option maxRecDepth 100000
def hi0 : Im := ⟨0, [1, 2, 3], 0, im0.regs, []⟩
def hr2 : ExR := ⟨⟨0, [1, 2, 3], 2, [2, 1, 0, 0, 0, 0, 0, 0, 0, 0, 0, 0, 0, 0, 0, 0], [⟨9, 0, [⟨1, 1, 2, 1⟩]⟩]⟩, [⟨9, 1, 1, 2, 1⟩], 0⟩
def hr3 : ExR := ⟨⟨1, [2, 4], 3, [2, 1, 0, 0, 0, 0, 0, 0, 0, 0, 0, 0, 0, 0, 0, 0], [⟨9, 0, [⟨1, 1, 2, 1⟩]⟩]⟩, [], 0⟩
end Go.Proofs.Ytbedoemdjlollaa

namespace Go.Proofs.Ytbedoemdjlollaa
open Go.ChangeShapes Go.WideShapes Go.ChangeAt Go.RowKit Go.Syn Go.Eng
set_option linter.unusedVariables false
set_option linter.unusedSimpArgs false
set_option maxRecDepth 100000
end Go.Proofs.Ytbedoemdjlollaa

namespace Go.Proofs.Ytbedoemdjlollaa
open Go.ChangeShapes Go.WideShapes Go.ChangeAt Go.RowKit Go.Syn Go.Eng
set_option linter.unusedVariables false
set_option linter.unusedSimpArgs false
set_option maxRecDepth 100000
structure Pv where
  v : Vl
  a1 : Option Addr
  c1 : Nat
  a2 : Option Addr
  c2 : Nat
def Pv.cells (p : Pv) : List Value := [.int .i64 p.v.k, .slice p.a1 p.v.cs.length p.c1, .slice p.a2 p.v.ns.length p.c2]
def imOk (I : Im) : Prop := VI I ∧ I.regs.length = 16 ∧ ∀ x ∈ I.mem, I64 x
theorem imOk.fit {I : Im} (h : imOk I) : ImFit I := ⟨h.2.2, by have := h.1.fit.1; omega, h.2.1⟩
theorem goI_ok {I : Im} (h : imOk I) {slot : Int} {v : Vl} (hs : slot = I.sl + 1) (hs2 : slot ≤ 1099511627776) (he : v.k = 2 → I.ep < 1099511627776) (hz : valE v = 0) (hn : ∀ x ∈ v.ns, I64 x) : imOk (goI I slot v) := by
  have h0 := h.1.sl0
  have e0 := h.1.ep0
  unfold goI
  split
  · rename_i k2
    have hm : setOkB v.ns = true := by
      rcases valE_zero hz with q | q | q
      · omega
      · exact q.2.2
      · omega
    exact ⟨⟨by show 0 ≤ I.ep + 1; omega, by have := he k2; show I.ep + 1 ≤ _; omega, by show 0 ≤ slot; omega, hs2, hm, h.1.regs, h.1.tb⟩, h.2.1, hn⟩
  · exact ⟨⟨e0, h.1.ep1, by show 0 ≤ slot; omega, hs2, h.1.mem, h.1.regs, h.1.tb⟩, h.2.1, h.2.2⟩
theorem runAll_ok {I : Im} (h : imOk I) {cs : List CmD} (hc : ∀ c ∈ cs, cmdV c = 0) : imOk (runAll I cs).1 := by
  obtain ⟨h1, h2⟩ := h.1.all h.2.1 hc cs.length
  rw [List.take_length] at h1 h2
  exact ⟨h1, h2, by have := (runAll_keep I cs (I, [])).1; show ∀ x ∈ (cs.foldl stepV (I, [])).1.mem, I64 x; rw [this]; exact h.2.2⟩
theorem cs_ok {v : Vl} (hz : valE v = 0) : ∀ c ∈ v.cs, cmdV c = 0 := by
  rcases valE_zero hz with q | q | q
  · rw [q.2.1]; intro c hc; cases hc
  · rw [q.2.1]; intro c hc; cases hc
  · exact firstE_all q.2.2.2.2
theorem exec_eq {I : Im} (h : VI I) {slot : Int} {v : Vl} (hs : slot = I.sl + 1) (hs2 : slot ≤ 1099511627776) (he : v.k = 2 → I.ep < 1099511627776) : execV I slot v = if valE v ≠ 0 then ⟨im0, [], valE v⟩ else ⟨(runAll (goI I slot v) v.cs).1, (runAll (goI I slot v) v.cs).2, 0⟩ := by
  unfold execV
  rw [if_neg (by rw [(validI_iff I).2 h]; decide), if_neg]
  rintro (q | q | ⟨q1, q2⟩)
  · exact q hs
  · omega
  · have := he q1; omega
structure ExecOk (I : Im) (slot : Int) (v : Vl) (R : ExR) : Prop where
  e : R.e = 0
  i : R.i = (runAll (goI I slot v) v.cs).1
  an : R.an = (runAll (goI I slot v) v.cs).2
  ok : imOk R.i
  sl : R.i.sl = slot
  mem : R.i.mem = if v.k = 2 then v.ns else I.mem
  ep : R.i.ep = if v.k = 2 then I.ep + 1 else I.ep
  len : R.an.length = v.cs.length
  rest : v.cs = [] → R.i.regs = I.regs ∧ R.i.tb = I.tb
theorem exec_ok {I : Im} (h : imOk I) {slot : Int} {v : Vl} (hs : slot = I.sl + 1) (hs2 : slot ≤ 1099511627776) (he : v.k = 2 → I.ep < 1099511627776) (hz : valE v = 0) (hn : ∀ x ∈ v.ns, I64 x) : ExecOk I slot v (execV I slot v) := by
  rw [exec_eq h.1 hs hs2 he, if_neg (fun q => q hz)]
  have hk := runAll_keep (goI I slot v) v.cs (goI I slot v, [])
  refine ⟨rfl, rfl, rfl, runAll_ok (goI_ok h hs hs2 he hz hn) (cs_ok hz), hk.2.2.1.trans ?_, hk.1.trans ?_, hk.2.1.trans ?_, (hk.2.2.2).trans (by simp), fun hc => ?_⟩
  · show (goI I slot v).sl = slot
    unfold goI; split <;> rfl
  · show (goI I slot v).mem = _
    unfold goI; split <;> rfl
  · show (goI I slot v).ep = _
    unfold goI; split <;> rfl
  · rw [hc]
    show (goI I slot v).regs = _ ∧ (goI I slot v).tb = _
    unfold goI; split <;> exact ⟨rfl, rfl⟩
end Go.Proofs.Ytbedoemdjlollaa

namespace Go.Proofs.Ytbedoemdjlollaa
open Go.ChangeShapes Go.WideShapes Go.ChangeAt Go.RowKit Go.Syn Go.Eng
set_option linter.unusedVariables false
set_option linter.unusedSimpArgs false
set_option maxRecDepth 100000
section
variable {C : Cfg} {ρ : Env} {pre : List Nat} {rest : HX} {L : Stack} {m m' : Mem} {ty : Nat} {ps : List (Nat × SV)} {t : Tree}
end
structure RepR where
  k : Int
  re : Int
  im : Int
  d : Bool
end Go.Proofs.Ytbedoemdjlollaa

namespace Go.Proofs.Ytbedoemdjlollaa
open Go.ChangeShapes Go.WideShapes Go.ChangeAt Go.RowKit Go.Syn Go.Eng
set_option linter.unusedVariables false
set_option linter.unusedSimpArgs false
set_option maxRecDepth 100000
end Go.Proofs.Ytbedoemdjlollaa

namespace Go.Proofs.Ytbedoemdjlollaa
open Go.ChangeShapes Go.WideShapes Go.ChangeAt Go.RowKit Go.Syn Go.Eng
set_option linter.unusedVariables false
set_option linter.unusedSimpArgs false
set_option maxRecDepth 100000
section
variable {C : Cfg} {ρ : Env} {pre : List Nat} {rest : HX} {L : Stack} {m m' : Mem} {ty : Nat} {ps : List (Nat × SV)} {t : Tree}
end
end Go.Proofs.Ytbedoemdjlollaa

namespace Go.Proofs.Ytbedoemdjlollaa
open Go.ChangeShapes Go.WideShapes Go.ChangeAt Go.RowKit Go.Syn Go.Eng
set_option linter.unusedVariables false
set_option linter.unusedSimpArgs false
set_option maxRecDepth 100000
section
variable {C : Cfg} {ρ : Env} {pre : List Nat} {hx : HX} {L : Stack} {m : Mem}
theorem again_W {key : Nat} {es : Vec} {I : Vals → HX → Prop} (v' : Vals) (hI : lkup key L = some I) (hv : ∀ ids, es.den ρ ids = v') (hx' : HX) (h : ∀ w ids, Facts C m ρ ids hx w → HXok hx' w ids ∧ I v' hx') : (Tree.again key es m).holds C ρ pre hx L :=
  fun ids w hp hf => ⟨hx', (h w ids hf).1, I, hI, by rw [hv]; exact (h w ids hf).2⟩
end
end Go.Proofs.Ytbedoemdjlollaa

namespace Go.Proofs.Ytbedoemdjlollaa
open Go.ChangeShapes Go.WideShapes Go.ChangeAt Go.RowKit Go.Syn Go.Eng
set_option linter.unusedVariables false
set_option linter.unusedSimpArgs false
set_option maxRecDepth 100000
def tbX (a : Option Addr) (es : List SE) : HX := ⟨fun k => (HX.cl a (secells es)).F k ∨ ∃ e ∈ es, (HX.cl e.a (kcells e.s.kept)).F k, fun w => TbAt w a es, fun w w' h he => ⟨(HX.cl a (secells es)).loc w w' h.row fun k hk => he k (.inl hk), fun e hm => (HX.cl e.a (kcells e.s.kept)).loc w w' (h.each e hm) fun k hk => he k (.inr ⟨e, hm, hk⟩)⟩⟩
def imR (I : Im) (a1 a2 : Option Addr) (es : List SE) : HX := (HX.cl a1 (I.mem.map (Value.int .i64))).and (tbX a2 es)
theorem imR_of {I : Im} {a1 a2 : Option Addr} {c2 : Nat} {es : List SE} {w : World} (h : (imX I a1 a2 c2 es).X w) : (imR I a1 a2 es).X w ∧ ∀ k, (imR I a1 a2 es).F k → (imX I a1 a2 c2 es).F k := by
  refine ⟨⟨h.1, tabR_at h.2⟩, ?_⟩
  rintro k (hk | hk | ⟨e, hm, hk⟩)
  · exact .inl hk
  · exact .inr (.inr ((rw_cl h.2.2).2 k hk))
  · exact .inr (.inl ⟨e, hm, (rw_cl (h.2.1 e hm)).2 k hk⟩)
structure ImBig (I : Im) : Prop where
  mem : ∀ x ∈ I.mem, I64 x
  len : I.mem.length * 8 ≤ 140737488351232
  reg : I.regs.length = 16
  tb : I.tb.length * 40 ≤ 140737488351232
  kept : ∀ s ∈ I.tb, s.kept.length * 32 ≤ 140737488351232
theorem imOk.big {I : Im} (h : imOk I) : ImBig I := ⟨h.2.2, by have := h.1.fit.1; omega, h.2.1, by have := h.1.fit.2; omega, fun s hs => by have := (h.1.tb.each s hs).len; omega⟩
theorem ImBig.at_ {I : Im} (h : ImBig I) {a1 a2 : Option Addr} {es : List SE} {w : World} (he : es.map SE.s = I.tb) (hX : (imR I a1 a2 es).X w) : ImAt w I a1 a2 es :=
  ⟨he, Ints.of_cells (by have := h.len; omega) h.mem hX.1, hX.2, h.reg⟩
theorem exec_zero {I : Im} {slot : Int} {v : Vl} (h : (execV I slot v).e = 0) : VI I ∧ slot = I.sl + 1 ∧ slot ≤ 1099511627776 ∧ (v.k = 2 → I.ep < 1099511627776) ∧ valE v = 0 := by
  unfold execV at h
  by_cases h1 : validI I = false
  · rw [if_pos h1] at h; cases h
  rw [if_neg h1] at h
  by_cases h2 : slot ≠ I.sl + 1 ∨ 1099511627776 < slot ∨ (v.k = 2 ∧ 1099511627776 ≤ I.ep)
  · rw [if_pos h2] at h; cases h
  rw [if_neg h2] at h
  simp only [not_or, Classical.not_not] at h2
  by_cases h3 : valE v ≠ 0
  · rw [if_pos h3] at h; exact absurd h h3
  refine ⟨(validI_iff I).1 (by simpa using h1), h2.1, by omega, fun q => ?_, by simpa using h3⟩
  have := h2.2.2
  exact Classical.byContradiction fun z => this ⟨q, by omega⟩
theorem im0_big : ImBig im0 := ⟨fun x h => (by cases h), by decide, rfl, by decide, fun s h => (by cases h)⟩
theorem exec_big {I : Im} (hI : ImBig I) (slot : Int) (v : Vl) (hn : ∀ x ∈ v.ns, I64 x) : ImBig (execV I slot v).i ∧ (execV I slot v).an.length ≤ 8 ∧ ((execV I slot v).e = 0 → imOk (execV I slot v).i) := by
  by_cases h : (execV I slot v).e = 0
  · obtain ⟨h1, h2, h3, h4, h5⟩ := exec_zero h
    have ok := exec_ok (⟨h1, hI.reg, hI.mem⟩ : imOk I) h2 h3 h4 h5 hn
    refine ⟨ok.ok.big, ?_, fun _ => ok.ok⟩
    rw [ok.len]
    rcases valE_zero h5 with q | q | q
    · rw [q.2.1]; decide
    · rw [q.2.1]; decide
    · exact q.2.1
  · have : (execV I slot v).i = im0 ∧ (execV I slot v).an = [] := by
      unfold execV at h ⊢
      split
      · exact ⟨rfl, rfl⟩
      · split
        · exact ⟨rfl, rfl⟩
        · split
          · exact ⟨rfl, rfl⟩
          · rename_i h1 h2 h3
            rw [if_neg h1, if_neg h2, if_neg h3] at h
            exact absurd rfl h
    rw [this.1, this.2]
    exact ⟨im0_big, by decide, fun q => absurd q h⟩
end Go.Proofs.Ytbedoemdjlollaa
