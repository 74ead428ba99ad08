/- Values: checks, sameness, copies, clones; a value as an argument. -/
import Derived.Test.YtadgaefmoobcoaaVal1
import Derived.Test.YtadgaefmoobcoaaEng34
import Derived.Test.YtadgaefmoobcoaaDat
namespace Go.Proofs.Ytadgaefmoobcoaa
open Go.ChangeShapes Go.WideShapes Go.ChangeAt Go.RowKit Go.Syn Go.Eng
set_option linter.unusedVariables false
set_option linter.unusedSimpArgs false
set_option maxRecDepth 100000
theorem take_stepV {α : Type} {xs ys : List α} {k : Nat} {x y : α} (hx : xs[k]? = some x) (hy : ys[k]? = some y) (h : xs.take k = ys.take k) : xs.take (k + 1) = ys.take (k + 1) ↔ x = y := by
  rw [List.take_add_one, List.take_add_one, hx, hy, h]
  simp
theorem rchk_any (v : Vl) (a1 : Option Addr) (c1 : Nat) (a2 : Option Addr) (c2 : Nat) (w : World) (H : VlAt w v a1 a2) : Calls Try.prog 37 #[vlV v a1 c1 a2 c2] w (PureAt w (.int .i64 (valE v))) := by
  have hl1 := H.l1
  by_cases k0 : v.k = 0
  · unfold vlV
    rw [k0]
    refine calls_at (tab_ok _) Try.func37 rfl tRChk0 (ρ := ⟨[], [], [], [v.cs.length, c1, v.ns.length, c2], [a1, a2]⟩) (ids := []) rfl (Facts.initP rfl oneNil) ?_
    by_cases h1 : v.cs = []
    · refine br_f (show ((v.cs.length : Int) != 0) = false by rw [len_ne]; simpa using h1) ?_
      by_cases h2 : v.ns = []
      · refine br_f (show ((v.ns.length : Int) != 0) = false by rw [len_ne]; simpa using h2) ?_
        have hE : valE v = firstE v.cs := by unfold valE; rw [if_pos k0, if_neg (by simp [h1, h2]), h1]; rfl
        rw [hE]
        refine loop_i (ChI v) (fun vs => v.cs.length - (vs.i.headD 0).toNat) (fun ids w2 hp hf => ⟨HX.nil, HXok.none _ _, 0, by omega, rfl, rfl, rfl⟩) ?_
        rintro vs hx' hcnt ⟨k, hk1, he, rfl, rfl⟩
        by_cases hk : k < v.cs.length
        · refine br_t (show decide ((k : Int) < (v.cs.length : Int)) = true from decide_eq_true (by omega)) ?_
          obtain ⟨c, hc⟩ : ∃ b, v.cs[k]? = some b := ⟨_, List.getElem?_eq_getElem hk⟩
          obtain ⟨s1, c1⟩ := c_elt H.c hc
          refine need_i ⟨s1, (show (0 : Int) ≤ k by omega), (show (k : Int) < v.cs.length by omega)⟩ ?_
          refine ⟨⟨c.is, [], [], [], []⟩, fun ids => c1 _ (fun q => q), ⟨rfl, oneNil⟩, ?_⟩
          refine node_val ⟨[cmdV c], [], [], [], []⟩ (fun w => rcmd_any c w) (fun _ => rfl) (fun _ => rfl) rfl rfl rfl oneNil ?_
          have hfe := firstE_drop hc
          rw [he] at hfe
          by_cases hz : cmdV c = 0
          · refine br_f (show (cmdV c != 0) = false by simpa using hz) ?_
            rw [if_neg (by simpa using hz)] at hfe
            have hwk : IntKind.i64.wrap ((k : Int) + 1) = ((k + 1 : Nat) : Int) := by rw [wrap_i64 (by omega)]; omega
            intro ids w2 hp hf
            refine ⟨HX.nil, HXok.none _ _, _, rfl, ⟨k + 1, by omega, hfe.symm, by rw [← hwk]; rfl, rfl⟩, ?_⟩
            show v.cs.length - (IntKind.i64.wrap ((k : Int) + 1)).toNat < v.cs.length - ((k : Int)).toNat
            rw [hwk]; omega
          · refine br_t (show (cmdV c != 0) = true by simpa using hz) (pure_done fun _ => ?_)
            rw [if_pos hz] at hfe
            rw [hfe]; rfl
        · refine br_f (show decide ((k : Int) < (v.cs.length : Int)) = false from decide_eq_false (by omega)) (pure_done fun _ => ?_)
          rw [← he, List.drop_of_length_le (by omega)]; rfl
      · refine br_t (show ((v.ns.length : Int) != 0) = true by rw [len_ne]; simpa using h2) (pure_done fun _ => ?_)
        unfold valE; rw [if_pos k0, if_pos (.inr h2)]; rfl
    · refine br_t (show ((v.cs.length : Int) != 0) = true by rw [len_ne]; simpa using h1) (pure_done fun _ => ?_)
      unfold valE; rw [if_pos k0, if_pos (.inl h1)]; rfl
  by_cases k2 : v.k = 2
  · unfold vlV
    rw [k2]
    refine calls_at (tab_ok _) Try.func37 rfl tRChk2 (ρ := ⟨[], [], [], [v.cs.length, c1, v.ns.length, c2], [a1, a2]⟩) (ids := []) rfl (Facts.initP rfl oneNil) ?_
    by_cases h1 : v.cs = []
    · refine br_f (show ((v.cs.length : Int) != 0) = false by rw [len_ne]; simpa using h1) ?_
      refine node_pure ⟨[], [setOkB v.ns], [], [], []⟩ rfl rfl rfl oneNil (fun ids w2 hp hf => ?_) ?_
      · exact refRight_any a2 c2 v.ns w2 (H.n.ext hf.chg.below)
      have hE : valE v = if setOkB v.ns then 0 else 24 := by unfold valE checkV; rw [if_neg k0, if_pos k2, if_neg (by simpa using h1)]
      cases hs : setOkB v.ns with
      | false =>
        rw [hE, hs]
        exact br_t rfl (pure_done fun _ => rfl)
      | true =>
        refine br_f rfl ?_
        have hE2 : valE v = firstE v.cs := by rw [hE, hs, h1]; rfl
        rw [hE2]
        refine loop_i (ChI v) (fun vs => v.cs.length - (vs.i.headD 0).toNat) (fun ids w2 hp hf => ⟨HX.nil, HXok.none _ _, 0, by omega, rfl, rfl, rfl⟩) ?_
        rintro vs hx' hcnt ⟨k, hk1, he, rfl, rfl⟩
        by_cases hk : k < v.cs.length
        · refine br_t (show decide ((k : Int) < (v.cs.length : Int)) = true from decide_eq_true (by omega)) ?_
          obtain ⟨c, hc⟩ : ∃ b, v.cs[k]? = some b := ⟨_, List.getElem?_eq_getElem hk⟩
          obtain ⟨s1, c1⟩ := c_elt H.c hc
          refine need_i ⟨s1, (show (0 : Int) ≤ k by omega), (show (k : Int) < v.cs.length by omega)⟩ ?_
          refine ⟨⟨c.is, [], [], [], []⟩, fun ids => c1 _ (fun q => q), ⟨rfl, oneNil⟩, ?_⟩
          refine node_val ⟨[cmdV c], [], [], [], []⟩ (fun w => rcmd_any c w) (fun _ => rfl) (fun _ => rfl) rfl rfl rfl oneNil ?_
          have hfe := firstE_drop hc
          rw [he] at hfe
          by_cases hz : cmdV c = 0
          · refine br_f (show (cmdV c != 0) = false by simpa using hz) ?_
            rw [if_neg (by simpa using hz)] at hfe
            have hwk : IntKind.i64.wrap ((k : Int) + 1) = ((k + 1 : Nat) : Int) := by rw [wrap_i64 (by omega)]; omega
            intro ids w2 hp hf
            refine ⟨HX.nil, HXok.none _ _, _, rfl, ⟨k + 1, by omega, hfe.symm, by rw [← hwk]; rfl, rfl⟩, ?_⟩
            show v.cs.length - (IntKind.i64.wrap ((k : Int) + 1)).toNat < v.cs.length - ((k : Int)).toNat
            rw [hwk]; omega
          · refine br_t (show (cmdV c != 0) = true by simpa using hz) (pure_done fun _ => ?_)
            rw [if_pos hz] at hfe
            rw [hfe]; rfl
        · refine br_f (show decide ((k : Int) < (v.cs.length : Int)) = false from decide_eq_false (by omega)) (pure_done fun _ => ?_)
          rw [← he, List.drop_of_length_le (by omega)]; rfl
    · refine br_t (show ((v.cs.length : Int) != 0) = true by rw [len_ne]; simpa using h1) (pure_done fun _ => ?_)
      unfold valE; rw [if_neg k0, if_pos k2, if_pos h1]; rfl
  by_cases k1 : v.k = 1
  · unfold vlV
    rw [k1]
    refine calls_at (tab_ok _) Try.func37 rfl tRChk1 (ρ := ⟨[], [], [], [v.cs.length, c1, v.ns.length, c2], [a1, a2]⟩) (ids := []) rfl (Facts.initP rfl oneNil) ?_
    have val : ∀ (b : Prop), (v.cs = [] ∨ 8 < v.cs.length ∨ v.ns ≠ []) → valE v = 25 := fun _ h => by unfold valE; rw [if_neg k0, if_neg k2, if_pos k1, if_pos h]
    by_cases h3 : v.ns = []
    · refine br_f (show ((v.ns.length : Int) != 0) = false by rw [len_ne]; simpa using h3) ?_
      by_cases h1 : v.cs = []
      · refine br_t (show ((v.cs.length : Int) == 0) = true by rw [h1]; rfl) (pure_done fun _ => ?_)
        rw [val True (.inl h1)]; rfl
      refine br_f (show ((v.cs.length : Int) == 0) = false by have := List.length_pos_iff.2 h1; simp only [beq_eq_false_iff_ne]; omega) ?_
      by_cases h2 : 8 < v.cs.length
      · refine br_t (show decide ((v.cs.length : Int) > 8) = true from decide_eq_true (by omega)) (pure_done fun _ => ?_)
        rw [val True (.inr (.inl h2))]; rfl
      refine br_f (show decide ((v.cs.length : Int) > 8) = false from decide_eq_false (by omega)) ?_
      have hE : valE v = firstE v.cs := by unfold valE; rw [if_neg k0, if_neg k2, if_pos k1, if_neg (by simp [h1, h3]; omega)]
      rw [hE]
      refine loop_i (ChI v) (fun vs => v.cs.length - (vs.i.headD 0).toNat) (fun ids w2 hp hf => ⟨HX.nil, HXok.none _ _, 0, by omega, rfl, rfl, rfl⟩) ?_
      rintro vs hx' hcnt ⟨k, hk1, he, rfl, rfl⟩
      by_cases hk : k < v.cs.length
      · refine br_t (show decide ((k : Int) < (v.cs.length : Int)) = true from decide_eq_true (by omega)) ?_
        obtain ⟨c, hc⟩ : ∃ b, v.cs[k]? = some b := ⟨_, List.getElem?_eq_getElem hk⟩
        obtain ⟨s1, c1⟩ := c_elt H.c hc
        refine need_i ⟨s1, (show (0 : Int) ≤ k by omega), (show (k : Int) < v.cs.length by omega)⟩ ?_
        refine ⟨⟨c.is, [], [], [], []⟩, fun ids => c1 _ (fun q => q), ⟨rfl, oneNil⟩, ?_⟩
        refine node_val ⟨[cmdV c], [], [], [], []⟩ (fun w => rcmd_any c w) (fun _ => rfl) (fun _ => rfl) rfl rfl rfl oneNil ?_
        have hfe := firstE_drop hc
        rw [he] at hfe
        by_cases hz : cmdV c = 0
        · refine br_f (show (cmdV c != 0) = false by simpa using hz) ?_
          rw [if_neg (by simpa using hz)] at hfe
          have hwk : IntKind.i64.wrap ((k : Int) + 1) = ((k + 1 : Nat) : Int) := by rw [wrap_i64 (by omega)]; omega
          intro ids w2 hp hf
          refine ⟨HX.nil, HXok.none _ _, _, rfl, ⟨k + 1, by omega, hfe.symm, by rw [← hwk]; rfl, rfl⟩, ?_⟩
          show v.cs.length - (IntKind.i64.wrap ((k : Int) + 1)).toNat < v.cs.length - ((k : Int)).toNat
          rw [hwk]; omega
        · refine br_t (show (cmdV c != 0) = true by simpa using hz) (pure_done fun _ => ?_)
          rw [if_pos hz] at hfe
          rw [hfe]; rfl
      · refine br_f (show decide ((k : Int) < (v.cs.length : Int)) = false from decide_eq_false (by omega)) (pure_done fun _ => ?_)
        rw [← he, List.drop_of_length_le (by omega)]; rfl
    · refine br_t (show ((v.ns.length : Int) != 0) = true by rw [len_ne]; simpa using h3) (pure_done fun _ => ?_)
      rw [val True (.inr (.inr h3))]; rfl
  · refine calls_at (tab_ok _) Try.func37 rfl tRChk (ρ := ⟨[v.k], [], [], [v.cs.length, c1, v.ns.length, c2], [a1, a2]⟩) (ids := []) rfl (Facts.initP rfl oneNil) ?_
    have hE : valE v = 25 := by unfold valE; rw [if_neg k0, if_neg k2, if_neg k1]
    by_cases hn : v.k < 0
    · refine br_t (show decide (v.k < 0) = true from decide_eq_true hn) (pure_done fun _ => ?_)
      rw [hE]; rfl
    · refine br_f (show decide (v.k < 0) = false from decide_eq_false hn) ?_
      refine br_t (show decide (v.k > 2) = true from decide_eq_true (by omega)) (pure_done fun _ => ?_)
      rw [hE]; rfl
def ItI (xs ys : List Int) (vs : Vals) (hx : HX) : Prop := ∃ k : Nat, k ≤ xs.length ∧ xs.take k = ys.take k ∧ vs = ⟨[(k : Int)], [], [], [], []⟩ ∧ hx = HX.nil
theorem ints_at {w : World} {a : Option Addr} {xs : List Int} (h : Ints w a xs) {i : Nat} {x : Int} (hi : xs[i]? = some x) : a.isSome = true ∧ ∀ (N : Nat → Prop), ¬ N ((a.getD ⟨0, 0, none⟩).block) → CellsAt w (.pointer (some (((a.getD ⟨0, 0, none⟩).add (i * 1)).add 0))) [.int .i64 x] N := ints_elt h hi
theorem intsB_any (a : Option Addr) (cap : Nat) (xs : List Int) (a2 : Option Addr) (cap2 : Nat) (ys : List Int) (w : World) (H : Ints w a xs) (H2 : Ints w a2 ys) (hl : xs.length ≤ 140737488355328) : Calls Try.prog 73 #[.slice a xs.length cap, .slice a2 ys.length cap2] w (PureAt w (.bool (decide (xs = ys)))) := by
  refine calls_at (tab_ok _) Try.func73 rfl tInts (ρ := ⟨[], [], [], [xs.length, cap, ys.length, cap2], [a, a2]⟩) (ids := []) rfl (Facts.initP rfl oneNil) ?_
  by_cases hlen : xs.length = ys.length
  · refine br_f (show ((xs.length : Int) != (ys.length : Int)) = false by simp [hlen]) ?_
    refine loop_i (ItI xs ys) (fun vs => xs.length - (vs.i.headD 0).toNat) (fun ids w2 hp hf => ⟨HX.nil, HXok.none _ _, 0, by omega, rfl, rfl, rfl⟩) ?_
    rintro vs hx' hcnt ⟨k, hk1, he, rfl, rfl⟩
    by_cases hk : k < xs.length
    · refine br_t (show decide ((k : Int) < (xs.length : Int)) = true from decide_eq_true (by omega)) ?_
      obtain ⟨x, hx⟩ : ∃ b, xs[k]? = some b := ⟨_, List.getElem?_eq_getElem hk⟩
      obtain ⟨y, hy⟩ : ∃ b, ys[k]? = some b := ⟨_, List.getElem?_eq_getElem (by omega)⟩
      obtain ⟨s1, c1⟩ := ints_at H hx
      obtain ⟨s2, c2⟩ := ints_at H2 hy
      have hst := take_stepV hx hy he
      have hwk : IntKind.i64.wrap ((k : Int) + 1) = ((k + 1 : Nat) : Int) := by rw [wrap_i64 (by omega)]; omega
      refine need_i ⟨s1, (show (0 : Int) ≤ k by omega), (show (k : Int) < xs.length by omega)⟩ ?_
      refine need_i ⟨s2, (show (0 : Int) ≤ k by omega), (show (k : Int) < ys.length by omega)⟩ ?_
      by_cases hxy : x = y
      · have e1 := hst.2 hxy
        have fin : ∀ {es : Vec} {m : Mem} {ρ : Env} {L : Stack}, (∀ ids, es.den ρ ids = ⟨[IntKind.i64.wrap ((k : Int) + 1)], [], [], [], []⟩) → (Tree.again 4 es m).holds ⟨Try.prog, w, fun _ => False, PureAt w (.bool (decide (xs = ys)))⟩ ρ [] HX.nil ((4, fun vs' hx'' => ItI xs ys vs' hx'' ∧ xs.length - (vs'.i.headD 0).toNat < xs.length - ((⟨[(k : Int)], [], [], [], []⟩ : Vals).i.headD 0).toNat) :: L) := by
          intro es m ρ L hes ids w2 hp hf
          refine ⟨HX.nil, HXok.none _ _, _, rfl, ?_⟩
          rw [hes]
          refine ⟨⟨k + 1, by omega, e1, by rw [hwk], rfl⟩, ?_⟩
          show xs.length - (IntKind.i64.wrap ((k : Int) + 1)).toNat < xs.length - ((k : Int)).toNat
          rw [hwk]; omega
        refine par_i ?_ ?_
        · refine ⟨⟨[x], [], [], [], []⟩, fun ids => c1 _ (fun q => q), ⟨rfl, oneNil⟩, ?_⟩
          refine ⟨⟨[y], [], [], [], []⟩, fun ids => c2 _ (fun q => q), ⟨rfl, oneNil⟩, ?_⟩
          exact br_f (show (x != y) = false by simpa using hxy) (fin (fun _ => rfl))
        · refine ⟨⟨[y], [], [], [], []⟩, fun ids => c2 _ (fun q => q), ⟨rfl, oneNil⟩, ?_⟩
          refine ⟨⟨[x], [], [], [], []⟩, fun ids => c1 _ (fun q => q), ⟨rfl, oneNil⟩, ?_⟩
          exact br_f (show (x != y) = false by simpa using hxy) (fin (fun _ => rfl))
      · have hne : ¬ xs = ys := fun e => hxy (by rw [e] at hx; rw [hx] at hy; exact Option.some.inj hy)
        have fin : ∀ {m : Mem} {ρ : Env} {L : Stack} {hx : HX}, (Tree.done (.lf (.bool (.lit false))) m).holds ⟨Try.prog, w, fun _ => False, PureAt w (.bool (decide (xs = ys)))⟩ ρ [] hx L := pure_done fun _ => by rw [decide_eq_false hne]; rfl
        refine par_i ?_ ?_
        · refine ⟨⟨[x], [], [], [], []⟩, fun ids => c1 _ (fun q => q), ⟨rfl, oneNil⟩, ?_⟩
          refine ⟨⟨[y], [], [], [], []⟩, fun ids => c2 _ (fun q => q), ⟨rfl, oneNil⟩, ?_⟩
          exact br_t (show (x != y) = true by simpa using hxy) fin
        · refine ⟨⟨[y], [], [], [], []⟩, fun ids => c2 _ (fun q => q), ⟨rfl, oneNil⟩, ?_⟩
          refine ⟨⟨[x], [], [], [], []⟩, fun ids => c1 _ (fun q => q), ⟨rfl, oneNil⟩, ?_⟩
          exact br_t (show (x != y) = true by simpa using hxy) fin
    · refine br_f (show decide ((k : Int) < (xs.length : Int)) = false from decide_eq_false (by omega)) (pure_done fun _ => ?_)
      have e : xs = ys := by rw [List.take_of_length_le (by omega), List.take_of_length_le (by omega)] at he; exact he
      rw [decide_eq_true e]; rfl
  · refine br_t (show ((xs.length : Int) != (ys.length : Int)) = true by simp only [bne_iff_ne, ne_eq]; omega) (pure_done fun _ => ?_)
    rw [decide_eq_false (fun e => hlen (by rw [e]))]; rfl
def cmdEq (c d : CmD) : Bool := (c.sess == d.sess) && ((c.seq == d.seq) && ((c.ack == d.ack) && ((c.op.kind == d.op.kind) && ((c.op.reg == d.op.reg) && ((c.op.tg == d.op.tg) && ((c.op.re == d.op.re) && (c.op.im == d.op.im)))))))
theorem cmdEq_iff (c d : CmD) : cmdEq c d = true ↔ c = d := by
  obtain ⟨a1, a2, a3, ⟨a4, a5, a6, a7, a8⟩⟩ := c
  obtain ⟨b1, b2, b3, ⟨b4, b5, b6, b7, b8⟩⟩ := d
  simp [cmdEq]
def sameV6 (v u : Vl) : Prop := v.k = u.k ∧ v.cs = u.cs ∧ v.ns = u.ns
theorem same_ext {v u : Vl} : sameV6 v u ↔ v = u := by
  obtain ⟨a, b, c⟩ := v
  obtain ⟨d, e, f⟩ := u
  simp [sameV6]
open Classical in
noncomputable def vlSame (v u : Vl) : Bool := decide (v = u)
theorem vlSame_f {v u : Vl} (h : ¬ v = u) : vlSame v u = false := @decide_eq_false _ (Classical.propDecidable _) h
theorem vlSame_t {v u : Vl} (h : v = u) : vlSame v u = true := @decide_eq_true _ (Classical.propDecidable _) h
def SvI (v u : Vl) (vs : Vals) (hx : HX) : Prop := ∃ k : Nat, k ≤ v.cs.length ∧ v.cs.take k = u.cs.take k ∧ vs = ⟨[(k : Int)], [], [], [], []⟩ ∧ hx = HX.nil
theorem samev_any (v : Vl) (a1 : Option Addr) (c1 : Nat) (a2 : Option Addr) (c2 : Nat) (u : Vl) (b1 : Option Addr) (d1 : Nat) (b2 : Option Addr) (d2 : Nat) (w : World) (H : VlAt w v a1 a2) (H2 : VlAt w u b1 b2) : Calls Try.prog 48 #[vlV v a1 c1 a2 c2, vlV u b1 d1 b2 d2] w (PureAt w (.bool (vlSame v u))) := by
  have hl1 := H.l1
  have hl2 := H.l2
  have no : ∀ {v u : Vl}, ¬ v = u → vlSame v u = false := fun h => vlSame_f h
  have yes : ∀ {v u : Vl}, v = u → vlSame v u = true := fun h => vlSame_t h
  refine calls_at (tab_ok _) Try.func48 rfl tSameV (ρ := ⟨[v.k, u.k], [], [], [v.cs.length, c1, v.ns.length, c2, u.cs.length, d1, u.ns.length, d2], [a1, a2, b1, b2]⟩) (ids := []) rfl (Facts.initP rfl oneNil) ?_
  by_cases hk : v.k = u.k
  · refine br_f (show (v.k != u.k) = false by simpa using hk) ?_
    by_cases hlen : v.cs.length = u.cs.length
    · refine br_f (show ((v.cs.length : Int) != (u.cs.length : Int)) = false by simp [hlen]) ?_
      refine node_pure ⟨[], [decide (v.ns = u.ns)], [], [], []⟩ rfl rfl rfl oneNil (fun ids w2 hp hf => ?_) ?_
      · exact intsB_any a2 c2 v.ns b2 d2 u.ns w2 (H.n.ext hf.chg.below) (H2.n.ext hf.chg.below) (by omega)
      by_cases hns : v.ns = u.ns
      · refine br_f (show (!decide (v.ns = u.ns)) = false by simp [hns]) ?_
        refine loop_i (SvI v u) (fun vs => v.cs.length - (vs.i.headD 0).toNat) (fun ids w2 hp hf => ⟨HX.nil, HXok.none _ _, 0, by omega, rfl, rfl, rfl⟩) ?_
        rintro vs hx' hcnt ⟨k, hk1, he, rfl, rfl⟩
        by_cases hkl : k < v.cs.length
        · refine br_t (show decide ((k : Int) < (v.cs.length : Int)) = true from decide_eq_true (by omega)) ?_
          obtain ⟨x, hx⟩ : ∃ b, v.cs[k]? = some b := ⟨_, List.getElem?_eq_getElem hkl⟩
          obtain ⟨y, hy⟩ : ∃ b, u.cs[k]? = some b := ⟨_, List.getElem?_eq_getElem (by omega)⟩
          obtain ⟨s1, q1⟩ := c_elt H.c hx
          obtain ⟨s2, q2⟩ := c_elt H2.c hy
          have hst := take_stepV hx hy he
          have hwk : IntKind.i64.wrap ((k : Int) + 1) = ((k + 1 : Nat) : Int) := by rw [wrap_i64 (by omega)]; omega
          refine need_i ⟨s1, (show (0 : Int) ≤ k by omega), (show (k : Int) < v.cs.length by omega)⟩ ?_
          refine need_i ⟨s2, (show (0 : Int) ≤ k by omega), (show (k : Int) < u.cs.length by omega)⟩ ?_
          by_cases hxy : x = y
          · have e1 := hst.2 hxy
            have hce : (!cmdEq x y) = false := by rw [(cmdEq_iff x y).2 hxy]; rfl
            have fin : ∀ {es : Vec} {m : Mem} {ρ : Env} {L : Stack}, (∀ ids, es.den ρ ids = ⟨[IntKind.i64.wrap ((k : Int) + 1)], [], [], [], []⟩) → (Tree.again 4 es m).holds ⟨Try.prog, w, fun _ => False, PureAt w (.bool (vlSame v u))⟩ ρ [] HX.nil ((4, fun vs' hx'' => SvI v u vs' hx'' ∧ v.cs.length - (vs'.i.headD 0).toNat < v.cs.length - ((⟨[(k : Int)], [], [], [], []⟩ : Vals).i.headD 0).toNat) :: L) := by
              intro es m ρ L hes ids w2 hp hf
              refine ⟨HX.nil, HXok.none _ _, _, rfl, ?_⟩
              rw [hes]
              refine ⟨⟨k + 1, by omega, e1, by rw [hwk], rfl⟩, ?_⟩
              show v.cs.length - (IntKind.i64.wrap ((k : Int) + 1)).toNat < v.cs.length - ((k : Int)).toNat
              rw [hwk]; omega
            refine par_i ?_ ?_
            · refine ⟨⟨x.is, [], [], [], []⟩, fun ids => q1 _ (fun q => q), ⟨rfl, oneNil⟩, ?_⟩
              refine ⟨⟨y.is, [], [], [], []⟩, fun ids => q2 _ (fun q => q), ⟨rfl, oneNil⟩, ?_⟩
              exact br_f (Eq.trans (b := !cmdEq x y) (by kernel_rfl) hce) (fin (fun _ => rfl))
            · refine ⟨⟨y.is, [], [], [], []⟩, fun ids => q2 _ (fun q => q), ⟨rfl, oneNil⟩, ?_⟩
              refine ⟨⟨x.is, [], [], [], []⟩, fun ids => q1 _ (fun q => q), ⟨rfl, oneNil⟩, ?_⟩
              exact br_f (Eq.trans (b := !cmdEq x y) (by kernel_rfl) hce) (fin (fun _ => rfl))
          · have hce : (!cmdEq x y) = true := by
              have : cmdEq x y = false := by
                cases h : cmdEq x y with
                | false => rfl
                | true => exact absurd ((cmdEq_iff x y).1 h) hxy
              rw [this]; rfl
            have hne : ¬ v = u := fun e => hxy (by rw [e] at hx; rw [hx] at hy; exact Option.some.inj hy)
            have fin : ∀ {m : Mem} {ρ : Env} {L : Stack} {hx : HX}, (Tree.done (.lf (.bool (.lit false))) m).holds ⟨Try.prog, w, fun _ => False, PureAt w (.bool (vlSame v u))⟩ ρ [] hx L := pure_done fun _ => by rw [no hne]; rfl
            refine par_i ?_ ?_
            · refine ⟨⟨x.is, [], [], [], []⟩, fun ids => q1 _ (fun q => q), ⟨rfl, oneNil⟩, ?_⟩
              refine ⟨⟨y.is, [], [], [], []⟩, fun ids => q2 _ (fun q => q), ⟨rfl, oneNil⟩, ?_⟩
              exact br_t (Eq.trans (b := !cmdEq x y) (by kernel_rfl) hce) fin
            · refine ⟨⟨y.is, [], [], [], []⟩, fun ids => q2 _ (fun q => q), ⟨rfl, oneNil⟩, ?_⟩
              refine ⟨⟨x.is, [], [], [], []⟩, fun ids => q1 _ (fun q => q), ⟨rfl, oneNil⟩, ?_⟩
              exact br_t (Eq.trans (b := !cmdEq x y) (by kernel_rfl) hce) fin
        · refine br_f (show decide ((k : Int) < (v.cs.length : Int)) = false from decide_eq_false (by omega)) (pure_done fun _ => ?_)
          have e : v.cs = u.cs := by rw [List.take_of_length_le (by omega), List.take_of_length_le (by omega)] at he; exact he
          rw [yes (same_ext.1 ⟨hk, e, hns⟩)]; rfl
      · refine br_t (show (!decide (v.ns = u.ns)) = true by simp [hns]) (pure_done fun _ => ?_)
        rw [no (fun e => hns (by rw [e]))]; rfl
    · refine br_t (show ((v.cs.length : Int) != (u.cs.length : Int)) = true by simp only [bne_iff_ne, ne_eq]; omega) (pure_done fun _ => ?_)
      rw [no (fun e => hlen (by rw [e]))]; rfl
  · refine br_t (show (v.k != u.k) = true by simpa using hk) (pure_done fun _ => ?_)
    rw [no (fun e => hk (by rw [e]))]; rfl
theorem ccells_ne {cs : List CmD} (h : cs ≠ []) : ccells cs ≠ [] := fun q => by
  cases cs with
  | nil => exact h rfl
  | cons c r => simp [ccells, CmD.cells] at q
theorem info_cmd : (Try.prog.info? 32).map (fun i => (i.zero, i.size, i.bytes)) = some (some (.agg #[.int .i64 0, .int .i64 0, .int .i64 0, .int .i64 0, .int .i64 0, .int .i64 0, .int .i64 0, .int .i64 0]), 8, 64) := by kernel_rfl
theorem info_int1 : (Try.prog.info? 3).map (fun i => (i.zero, i.size, i.bytes)) = some (some (.int .i64 0), 1, 8) := by kernel_rfl
def crow (a : Option Addr) (n c : Nat) (cs : List CmD) : HX := HX.rw 8 32 a n c (ccells cs)
def nrow (a : Option Addr) (n c : Nat) (ns : List Int) : HX := HX.rw 1 3 a n c (ns.map (Value.int .i64))
theorem ccells_snoc (cs : List CmD) (c : CmD) : ccells cs ++ c.cells = ccells (cs ++ [c]) := by unfold ccells; rw [List.flatMap_append]; simp
theorem ncells_snoc (ns : List Int) (n : Int) : ns.map (Value.int .i64) ++ [.int .i64 n] = (ns ++ [n]).map (Value.int .i64) := by rw [List.map_append]; rfl
theorem cmd_one (c : CmD) : ∀ v ∈ c.cells, v.oneCell' = true := fun v hv => by
  simp only [CmD.cells, List.mem_cons, List.not_mem_nil, or_false] at hv
  rcases hv with rfl | rfl | rfl | rfl | rfl | rfl | rfl | rfl <;> rfl
theorem rw_ltx {sz e n cap : Nat} {a : Option Addr} {xs : List Value} {w : World} (h : (HX.rw sz e a n cap xs).X w) {k : Nat} (h1 : cap ≠ 0) (h2 : abk a = some k) : k < w.heap.size := by
  obtain ⟨g, _, rfl, q, _⟩ := rw_open h h1
  cases h2; exact q
/-- Where a value lies. -/
def vlX (v : Vl) (a1 a2 : Option Addr) : HX := (HX.cl a1 (ccells v.cs)).and (HX.cl a2 (v.ns.map (Value.int .i64)))
structure VlFit (v : Vl) : Prop where
  n : ∀ n ∈ v.ns, I64 n
  l1 : v.cs.length ≤ 2199023255552
  l2 : v.ns.length ≤ 17592186044416
theorem VlFit.at_ {v : Vl} (h : VlFit v) {a1 a2 : Option Addr} {w : World} (hX : (vlX v a1 a2).X w) : VlAt w v a1 a2 := ⟨hX.1, Ints.of_cells (by have := h.l2; omega) h.n hX.2, h.l1, h.l2⟩
theorem VlAt.X {v : Vl} {a1 a2 : Option Addr} {w : World} (H : VlAt w v a1 a2) : (vlX v a1 a2).X w := ⟨H.c, H.n.cells⟩
theorem VlAt.fit {v : Vl} {a1 a2 : Option Addr} {w : World} (H : VlAt w v a1 a2) : VlFit v := ⟨H.n.fits, H.l1, H.l2⟩
theorem vlX_sep {v : Vl} {a1 a2 : Option Addr} {w : World} (h : (vlX v a1 a2).X w) : ∀ k, (vlX v a1 a2).F k → k < w.heap.size := fun k hk => hk.elim (cl_sep h.1 k) (cl_sep h.2 k)
/-- What a function that answers a value in new memory does. -/
def VlNew (w : World) (V : Value → Value) (v : Vl) (e : Ending) (w' : World) : Prop := ∃ a1 c1 a2 c2, e = .returned (V (vlV v a1 c1 a2 c2)) ∧ (vlX v a1 a2).X w' ∧ (∀ k, (vlX v a1 a2).F k → w.heap.size ≤ k) ∧ Below w.heap.size w w'
section
variable {C : Cfg} {ρ : Env} {pre : List Nat} {hx : HX} {L : Stack} {m m' : Mem} {args : List SV} {r : SV} {t : Tree}
theorem node_vl {f : Nat} {V : Value → Value} {v : Vl} (AS : List Nat → Array Value) (vs : Option Addr → Nat → Option Addr → Nat → Vals) (hargs : ∀ ids, (args.map (SV.den ρ ids)).toArray = AS ids) (hcall : ∀ ids w, pre <+: ids → Facts C m ρ ids hx w → Calls C.P f (AS ids) w (VlNew w V v))
    (hr : ∀ a1 c1 a2 c2 ids, r.den (ρ.add (vs a1 c1 a2 c2)) ids = V (vlV v a1 c1 a2 c2)) (hhp : m'.hp = m.hp) (hfit : hpFits m.c m.hp.length m.hp = true) (hc : ∀ a1 c1 a2 c2, (ρ.add (vs a1 c1 a2 c2)).cnt = m'.c) (h1 : ∀ a1 c1 a2 c2 v, v ∈ (vs a1 c1 a2 c2).v → v.oneCell' = true)
    (h : ∀ a1 c1 a2 c2, (∀ k, (vlX v a1 a2).F k → C.W.heap.size ≤ k ∧ ¬ hx.F k) → t.holds C (ρ.add (vs a1 c1 a2 c2)) pre (hx.and (vlX v a1 a2)) L) : (Tree.call f args m r m' t).holds C ρ pre hx L := by
  refine node_out AS (fun u hy => ∃ a1 c1 a2 c2, u = vs a1 c1 a2 c2 ∧ hy = vlX v a1 a2) hargs (fun ids w hp hf => ?_) hhp hfit ?_ ?_
  · refine (hcall ids w hp hf).mono ?_
    rintro e w' ⟨a1, c1, a2, c2, rfl, hX, hge, hb⟩
    exact ⟨_, _, ⟨a1, c1, a2, c2, rfl, rfl⟩, by rw [hr], hX, fun k hk => ⟨hge k hk, vlX_sep hX k hk⟩, hb⟩
  · rintro u hy ⟨a1, c1, a2, c2, rfl, rfl⟩
    exact ⟨hc _ _ _ _, h1 _ _ _ _⟩
  · rintro u hy ⟨a1, c1, a2, c2, rfl, rfl⟩ hfr
    exact h a1 c1 a2 c2 hfr
end
theorem ccells_one (cs : List CmD) : ∀ v ∈ ccells cs, v.oneCell' = true := fun v hv => by
  obtain ⟨c, _, h⟩ := List.mem_flatMap.1 hv
  exact cmd_one c v h
theorem rw_fresh {b : Option Addr} {n d sz e : Nat} {cs : List Value} {w : World} {N : Nat} (hx : (HX.rw sz e b n d cs).X w) (hk : ∀ k, d ≠ 0 → abk b = some k → N ≤ k) : ∀ k, (HX.cl b cs).F k → N ≤ k := by
  rintro k ⟨hne, rfl⟩
  have hc : d ≠ 0 := fun q => by
    rcases hx with ⟨_, _, h3⟩ | ⟨h3, _⟩
    · exact hne h3
    · exact h3 q
  obtain ⟨g, _, rfl, _⟩ := rw_open hx hc
  exact hk g hc rfl
set_option maxRecDepth 100000 in
theorem tCpVal : (runF ⟨tt, fns, {}⟩ (Try.f33.body.getD .skip) Try.f33.results.toList (entry Try.f33.ntmps [.agg [.int .i64 (.var 0), .sl 0 (.var 0) (.var 1), .sl 1 (.var 2) (.var 3)]] [] ⟨1, 0, 0, 4, 2⟩)) =
  (.gen (.call ⟨(.builtin .append), #[(.tmp 8), (.tmp 10)], #[24, 24]⟩) 24 [(8, (.lf .nilsl)), (10, (.lf (tSl 0 0 1)))] ⟨[(27, [(tVi 0), (tSl 0 0 1), (tSl 1 2 3)]), (27, [(tLi 0), .nilsl, .nilsl]), (27, [(tVi 0), .nilsl, .nilsl])], ⟨1, 0, 0, 4, 2⟩⟩ (.some (.lf (tSl 2 4 5))) ⟨[(27, [(tVi 0), (tSl 0 0 1), (tSl 1 2 3)]), (27, [(tLi 0), .nilsl, .nilsl]), (27, [(tVi 0), .nilsl, .nilsl])], ⟨1, 0, 0, 6, 3⟩⟩ (.gen (.call ⟨(.builtin .append), #[(.tmp 14), (.tmp 16)], #[25, 25]⟩) 25 [(14, (.lf .nilsl)), (16, (.lf (tSl 1 2 3)))] ⟨[(27, [(tVi 0), (tSl 0 0 1), (tSl 1 2 3)]), (27, [(tLi 0), .nilsl, .nilsl]), (27, [(tVi 0), (tSl 2 4 5), .nilsl])], ⟨1, 0, 0, 6, 3⟩⟩ (.some (.lf (tSl 3 6 7))) ⟨[(27, [(tVi 0), (tSl 0 0 1), (tSl 1 2 3)]), (27, [(tLi 0), .nilsl, .nilsl]), (27, [(tVi 0), (tSl 2 4 5), .nilsl])], ⟨1, 0, 0, 8, 4⟩⟩ (.done (.agg [(tVi 0), (tSl 2 4 5), (tSl 3 6 7)]) ⟨[(27, [(tVi 0), (tSl 0 0 1), (tSl 1 2 3)]), (27, [(tVi 0), (tSl 2 4 5), (tSl 3 6 7)]), (27, [(tVi 0), (tSl 2 4 5), (tSl 3 6 7)])], ⟨1, 0, 0, 8, 4⟩⟩))) := by kernel_rfl
theorem cpvl_any (v : Vl) (a1 : Option Addr) (c1 : Nat) (a2 : Option Addr) (c2 : Nat) (w : World) (H : VlAt w v a1 a2) : Calls Try.prog 33 #[vlV v a1 c1 a2 c2] w (VlNew w id v) := by
  have l1 := H.l1
  have l2 := H.l2
  refine calls_at (tab_ok _) Try.func33 rfl tCpVal (ρ := ⟨[v.k], [], [], [v.cs.length, c1, v.ns.length, c2], [a1, a2]⟩) (ids := []) (hx := vlX v a1 a2) rfl (Facts.initq rfl oneNil H.X (vlX_sep H.X)) ?_
  refine node_appends (xs := []) rfl Try.underlying24 info_cmd rfl (by decide) none 0 0 (fun _ => a1) v.cs.length c1 (ccells v.cs) (ccells_len _) (fun ids w _ _ => HX.rw_nil _ _ _ w) (fun ids w2 hp hf => hf.x.1) (ccells_one _) (fun w h => ⟨h, fun _ q => q⟩) (fun k h => absurd rfl h) (fun k h => absurd rfl h) (fun k h => absurd rfl h) (by unfold maxLen; omega) (by omega) (by intros; kernel_rfl) (by intros; kernel_rfl) (by intros; kernel_rfl) (by intros; kernel_rfl) (by intros; kernel_rfl) (by intros; kernel_rfl) ?_
  intro b1 d1 _ hd1 hw1
  refine node_appends (xs := []) rfl Try.underlying25 info_int1 rfl (by decide) none 0 0 (fun _ => a2) v.ns.length c2 (v.ns.map (Value.int .i64)) (by rw [List.length_map]; omega) (fun ids w _ _ => HX.rw_nil _ _ _ w) (fun ids w2 hp hf => hf.x.1.2) (fun x hx => by obtain ⟨n, _, rfl⟩ := List.mem_map.1 hx; rfl) (fun w h => ⟨h, fun _ q => q⟩) (fun k h => absurd rfl h) (fun k h => absurd rfl h) (fun k h => absurd rfl h) (by unfold maxLen; omega) (by omega) (by intros; kernel_rfl) (by intros; kernel_rfl) (by intros; kernel_rfl) (by intros; kernel_rfl) (by intros; kernel_rfl) (by intros; kernel_rfl) ?_
  intro b2 d2 _ hd2 hw2 ids w2 hp hf
  have e1 := hf.x.1.2
  have e2 := hf.x.2
  rw [List.nil_append] at e1 e2
  refine ⟨b1, d1, b2, d2, ?_, ⟨rw_cells e1, rw_cells e2⟩, ?_, hf.chg.below⟩
  · show Ending.returned (.agg #[.int .i64 v.k, .slice b1 (0 + v.cs.length) d1, .slice b2 (0 + v.ns.length) d2]) = _
    rw [Nat.zero_add, Nat.zero_add]; rfl
  · intro k hk
    rcases hk with hk | hk
    · exact rw_fresh e1 (fun k h1 h2 => (hw1 k h1 h2).elim (fun q => absurd rfl q.1) (fun q => q.1)) k hk
    · exact rw_fresh e2 (fun k h1 h2 => (hw2 k h1 h2).elim (fun q => absurd rfl q.1) (fun q => q.1)) k hk
/-- A command, opened. -/
def cmDat (c : CmD) : Dat := .parts [.int .i64 c.sess, .int .i64 c.seq, .int .i64 c.ack, .parts [.int .i64 c.op.kind, .int .i64 c.op.reg, .int .i64 c.op.tg, .int .i64 c.op.re, .int .i64 c.op.im]]
def CmFit (c : CmD) : Prop := ∀ i ∈ c.is, I64 i
theorem opn_int {w : World} {d : Dat} (h : d.In Try.prog w 3) : ∃ k : Int, d = .int .i64 k ∧ I64 k := by
  obtain ⟨k, rfl, hk⟩ := in_int Try.underlying3 h
  exact ⟨k, rfl, I64.of_wf hk⟩
theorem opn_cmd {w : World} {d : Dat} (h : d.In Try.prog w 32) : ∃ c : CmD, d = cmDat c ∧ CmFit c := by
  obtain ⟨ds, rfl, g⟩ := in_struct Try.underlying32 h
  obtain ⟨d0, r0, rfl, h0, g0⟩ := inEach_cons g
  obtain ⟨d1, r1, rfl, h1, g1⟩ := inEach_cons g0
  obtain ⟨d2, r2, rfl, h2, g2⟩ := inEach_cons g1
  obtain ⟨d3, r3, rfl, h3, g3⟩ := inEach_cons g2
  obtain rfl := inEach_nil g3
  obtain ⟨es, rfl, f⟩ := in_struct Try.underlying30 h3
  obtain ⟨e0, s0, rfl, k0, f1⟩ := inEach_cons f
  obtain ⟨e1, s1, rfl, k1, f2⟩ := inEach_cons f1
  obtain ⟨e2, s2, rfl, k2, f3⟩ := inEach_cons f2
  obtain ⟨e3, s3, rfl, k3, f4⟩ := inEach_cons f3
  obtain ⟨e4, s4, rfl, k4, f5⟩ := inEach_cons f4
  obtain rfl := inEach_nil f5
  obtain ⟨x0, rfl, p0⟩ := opn_int h0
  obtain ⟨x1, rfl, p1⟩ := opn_int h1
  obtain ⟨x2, rfl, p2⟩ := opn_int h2
  obtain ⟨y0, rfl, q0⟩ := opn_int k0
  obtain ⟨y1, rfl, q1⟩ := opn_int k1
  obtain ⟨y2, rfl, q2⟩ := opn_int k2
  obtain ⟨y3, rfl, q3⟩ := opn_int k3
  obtain ⟨y4, rfl, q4⟩ := opn_int k4
  refine ⟨⟨x0, x1, x2, ⟨y0, y1, y2, y3, y4⟩⟩, rfl, fun i hi => ?_⟩
  simp only [CmD.is, List.mem_cons, List.not_mem_nil, or_false] at hi
  rcases hi with rfl | rfl | rfl | rfl | rfl | rfl | rfl | rfl <;> assumption
theorem dat_cells : ∀ cs : List CmD, Dat.cellsAll (cs.map cmDat) = ccells cs
  | [] => rfl
  | c :: r => by
    show Dat.cellsAll (cmDat c :: r.map cmDat) = c.cells ++ ccells r
    rw [← dat_cells r]; rfl
theorem dat_ints : ∀ ns : List Int, Dat.cellsAll (ns.map fun n => Dat.int .i64 n) = ns.map (Value.int .i64)
  | [] => rfl
  | n :: r => by rw [List.map_cons, List.map_cons, ← dat_ints r]; rfl
theorem bytes_cmd : Try.prog.bytesOf 32 = 64 := by kernel_rfl
theorem bytes_int : Try.prog.bytesOf 3 = 8 := by kernel_rfl
theorem reach_is : reachBytes ≤ 140737488355328 := by unfold reachBytes; decide
/-- A value, opened. -/
theorem opn_vl {w : World} {d : Dat} (h : d.In Try.prog w 27) : ∃ (v : Vl) (a1 : Option Addr) (c1 : Nat) (a2 : Option Addr) (c2 : Nat), d.cells = [.int .i64 v.k, .slice a1 v.cs.length c1, .slice a2 v.ns.length c2] ∧ VlAt w v a1 a2 ∧ I64 v.k ∧ ∀ c ∈ v.cs, CmFit c := by
  obtain ⟨ds, rfl, g⟩ := in_struct Try.underlying27 h
  obtain ⟨d0, r0, rfl, h0, g0⟩ := inEach_cons g
  obtain ⟨d1, r1, rfl, h1, g1⟩ := inEach_cons g0
  obtain ⟨d2, r2, rfl, h2, g2⟩ := inEach_cons g1
  obtain rfl := inEach_nil g2
  obtain ⟨k, rfl, hk⟩ := opn_int h0
  obtain ⟨a1, c1, ds1, rfl, l1, m1, b1, C1, I1⟩ := in_slice Try.underlying24 h1
  obtain ⟨a2, c2, ds2, rfl, l2, m2, b2, C2, I2⟩ := in_slice Try.underlying25 h2
  obtain ⟨cs, rfl, hcs⟩ := list_map_of cmDat CmFit ds1 (fun d hd => opn_cmd (I1 d hd))
  obtain ⟨ns, rfl, hns⟩ := list_map_of (fun n => Dat.int .i64 n) I64 ds2 (fun d hd => opn_int (I2 d hd))
  have hr := reach_is
  rw [bytes_cmd, List.length_map] at b1
  rw [bytes_int, List.length_map] at b2
  rw [dat_cells] at C1
  rw [dat_ints] at C2
  have hc1 : cs.length ≤ 2199023255552 := by omega
  have hn1 : ns.length ≤ 17592186044416 := by omega
  refine ⟨⟨k, cs, ns⟩, a1, c1, a2, c2, ?_, ⟨C1, Ints.of_cells (Nat.le_trans hn1 (by decide)) hns C2, hc1, hn1⟩, hk, hcs⟩
  show [Value.int .i64 k] ++ ([Value.slice a1 (cs.map cmDat).length c1] ++ ([Value.slice a2 (ns.map _).length c2] ++ [])) = _
  rw [List.length_map, List.length_map]; rfl
theorem vl_arg {d : Dat} {v : Vl} {a1 : Option Addr} {c1 : Nat} {a2 : Option Addr} {c2 : Nat} (h : d.cells = [.int .i64 v.k, .slice a1 v.cs.length c1, .slice a2 v.ns.length c2]) : Value.agg d.cells.toArray = vlV v a1 c1 a2 c2 := by rw [h]; rfl
/-- A slice in new memory. -/
def ClNew (w : World) (n : Nat) (xs : List Value) (e : Ending) (w' : World) : Prop := ∃ a' c', e = .returned (.slice a' n c') ∧ (HX.cl a' xs).X w' ∧ (∀ k, (HX.cl a' xs).F k → w.heap.size ≤ k) ∧ Below w.heap.size w w'
theorem none_nil {w : World} {xs : List Value} (h : Cells w none xs) : xs = [] := by
  cases xs with
  | nil => rfl
  | cons x r => exact absurd (h (by simp)).1 (by simp [PlainA])
set_option maxRecDepth 100000 in
theorem tSCloneC : (runF ⟨tt, fns, { }⟩ (Try.f86.body.getD .skip) Try.f86.results.toList (entry Try.f86.ntmps [.lf (.sl 0 (.var 0) (.var 1))] [] ⟨0, 0, 0, 2, 1⟩)) =
  (.br (.anone 0) (.done (.lf .nilsl) ⟨[], ⟨0, 0, 0, 2, 1⟩⟩) (.gen (.call ⟨(.builtin .append), #[(.tmp 5), (.tmp 6)], #[24, 24]⟩) 24 [(5, (.lf (.nsl 0 0 0 0))), (6, (.lf (tSl 0 0 1)))] ⟨[(32, [])], ⟨0, 0, 0, 2, 1⟩⟩ (.some (.lf (tSl 1 2 3))) ⟨[(32, [])], ⟨0, 0, 0, 4, 2⟩⟩ (.done (.lf (tSl 1 2 3)) ⟨[(32, [])], ⟨0, 0, 0, 4, 2⟩⟩))) := by kernel_rfl
theorem scloneC_any (a : Option Addr) (cap : Nat) (cs : List CmD) (w : World) (H : Cells w a (ccells cs)) (hl : cs.length ≤ 2199023255552) : Calls Try.prog 86 #[.slice a cs.length cap] w (ClNew w cs.length (ccells cs)) := by
  refine calls_at (tab_ok _) Try.func86 rfl tSCloneC (ρ := ⟨[], [], [], [cs.length, cap], [a]⟩) (ids := []) (hx := HX.cl a (ccells cs)) rfl (Facts.initq rfl oneNil H (cl_sep H)) ?_
  by_cases h : a.isNone = true
  · refine br_t h ?_
    obtain rfl : a = none := by simpa using h
    have e := none_nil H
    have e2 : cs = [] := Classical.byContradiction fun q => ccells_ne q e
    subst e2
    intro ids w2 hp hf
    exact ⟨none, 0, rfl, fun h => by simp [ccells] at h, fun k hk => absurd rfl hk.1, hf.chg.below⟩
  · refine br_f (show a.isNone = false by cases a with | none => exact absurd rfl h | some x => rfl) ?_
    refine node_clones (sz := 8) (xs := ccells cs) rfl Try.underlying24 info_cmd rfl (by decide) 0 rfl (fun _ => a) cs.length cap (ccells_len _) (fun ids w2 hp hf => hf.x) (ccells_one cs) (by unfold maxLen; omega) (by omega) (fun _ => rfl) (fun _ => rfl) (fun _ _ _ => rfl) rfl rfl (fun _ _ => rfl) ?_
    intro a' c' hfr ids w2 hp hf
    exact ⟨a', c', rfl, rw_cells hf.x.2, rw_fresh hf.x.2 (fun k h1 h2 => (hfr k h1 h2).1), hf.chg.below⟩
set_option maxRecDepth 100000 in
theorem tSCloneN : (runF ⟨tt, fns, { }⟩ (Try.f87.body.getD .skip) Try.f87.results.toList (entry Try.f87.ntmps [.lf (.sl 0 (.var 0) (.var 1))] [] ⟨0, 0, 0, 2, 1⟩)) =
  (.br (.anone 0) (.done (.lf .nilsl) ⟨[], ⟨0, 0, 0, 2, 1⟩⟩) (.gen (.call ⟨(.builtin .append), #[(.tmp 5), (.tmp 6)], #[25, 25]⟩) 25 [(5, (.lf (.nsl 0 0 0 0))), (6, (.lf (tSl 0 0 1)))] ⟨[(3, [])], ⟨0, 0, 0, 2, 1⟩⟩ (.some (.lf (tSl 1 2 3))) ⟨[(3, [])], ⟨0, 0, 0, 4, 2⟩⟩ (.done (.lf (tSl 1 2 3)) ⟨[(3, [])], ⟨0, 0, 0, 4, 2⟩⟩))) := by kernel_rfl
theorem scloneN_any (a : Option Addr) (cap : Nat) (ns : List Int) (w : World) (H : Cells w a (ns.map (Value.int .i64))) (hl : ns.length ≤ 17592186044416) : Calls Try.prog 87 #[.slice a ns.length cap] w (ClNew w ns.length (ns.map (Value.int .i64))) := by
  refine calls_at (tab_ok _) Try.func87 rfl tSCloneN (ρ := ⟨[], [], [], [ns.length, cap], [a]⟩) (ids := []) (hx := HX.cl a (ns.map (Value.int .i64))) rfl (Facts.initq rfl oneNil H (cl_sep H)) ?_
  by_cases h : a.isNone = true
  · refine br_t h ?_
    obtain rfl : a = none := by simpa using h
    have e := none_nil H
    have e2 : ns = [] := by simpa using e
    subst e2
    intro ids w2 hp hf
    exact ⟨none, 0, rfl, fun h => by simp at h, fun k hk => absurd rfl hk.1, hf.chg.below⟩
  · refine br_f (show a.isNone = false by cases a with | none => exact absurd rfl h | some x => rfl) ?_
    refine node_clones (sz := 1) (xs := ns.map (Value.int .i64)) rfl Try.underlying25 info_int1 rfl (by decide) 0 rfl (fun _ => a) ns.length cap (by rw [List.length_map, Nat.mul_one]) (fun ids w2 hp hf => hf.x) (fun x hx => by obtain ⟨n, _, rfl⟩ := List.mem_map.1 hx; rfl) (by unfold maxLen; omega) (by omega) (fun _ => rfl) (fun _ => rfl) (fun _ _ _ => rfl) rfl rfl (fun _ _ => rfl) ?_
    intro a' c' hfr ids w2 hp hf
    exact ⟨a', c', rfl, rw_cells hf.x.2, rw_fresh hf.x.2 (fun k h1 h2 => (hfr k h1 h2).1), hf.chg.below⟩
section
variable {C : Cfg} {ρ : Env} {pre : List Nat} {hx : HX} {L : Stack} {m m' : Mem} {args : List SV} {r : SV} {t : Tree}
theorem node_cl {f : Nat} {n : Nat} {xs : List Value} (AS : List Nat → Array Value) (vs : Option Addr → Nat → Vals) (hargs : ∀ ids, (args.map (SV.den ρ ids)).toArray = AS ids) (hcall : ∀ ids w, pre <+: ids → Facts C m ρ ids hx w → Calls C.P f (AS ids) w (ClNew w n xs))
    (hr : ∀ a' c' ids, r.den (ρ.add (vs a' c')) ids = .slice a' n c') (hhp : m'.hp = m.hp) (hfit : hpFits m.c m.hp.length m.hp = true) (hc : ∀ a' c', (ρ.add (vs a' c')).cnt = m'.c) (h1 : ∀ a' c' v, v ∈ (vs a' c').v → v.oneCell' = true)
    (h : ∀ a' c', (∀ k, (HX.cl a' xs).F k → C.W.heap.size ≤ k ∧ ¬ hx.F k) → t.holds C (ρ.add (vs a' c')) pre (hx.and (HX.cl a' xs)) L) : (Tree.call f args m r m' t).holds C ρ pre hx L := by
  refine node_out AS (fun u hy => ∃ a' c', u = vs a' c' ∧ hy = HX.cl a' xs) hargs (fun ids w hp hf => ?_) hhp hfit ?_ ?_
  · refine (hcall ids w hp hf).mono ?_
    rintro e w' ⟨a', c', rfl, hX, hge, hb⟩
    exact ⟨_, _, ⟨a', c', rfl, rfl⟩, by rw [hr], hX, fun k hk => ⟨hge k hk, cl_sep hX k hk⟩, hb⟩
  · rintro u hy ⟨a', c', rfl, rfl⟩
    exact ⟨hc _ _, h1 _ _⟩
  · rintro u hy ⟨a', c', rfl, rfl⟩ hfr
    exact h a' c' hfr
end
abbrev tVClonem0 : Mem := ⟨[(27, [(tVi 0), (tSl 2 4 5), (tSl 3 6 7)]), (27, [(tVi 0), (tSl 2 4 5), (tSl 3 6 7)])], ⟨1, 0, 0, 8, 4⟩⟩
abbrev tVClonem1 : Mem := ⟨[(27, [(tVi 0), (tSl 0 0 1), (tSl 1 2 3)]), (27, [(tLi 0), .nilsl, .nilsl])], ⟨1, 0, 0, 4, 2⟩⟩
abbrev tVClonem2 : Mem := ⟨[(27, [(tVi 0), (tSl 0 0 1), (tSl 1 2 3)]), (27, [(tLi 0), .nilsl, .nilsl])], ⟨1, 0, 0, 6, 3⟩⟩
abbrev tVClonem3 : Mem := ⟨[(27, [(tVi 0), (tSl 0 0 1), (tSl 1 2 3)]), (27, [(tLi 0), .nilsl, .nilsl])], ⟨1, 0, 0, 8, 4⟩⟩
set_option maxRecDepth 100000 in
theorem tVClone : (runF ⟨tt, fns, { }⟩ (Try.f63.body.getD .skip) Try.f63.results.toList (entry Try.f63.ntmps [.agg [.int .i64 (.var 0), .sl 0 (.var 0) (.var 1), .sl 1 (.var 2) (.var 3)]] [] ⟨1, 0, 0, 4, 2⟩)) =
  (.par (.par (.call 86 [(.lf (tSl 0 0 1))] tVClonem1 (.lf (tSl 2 4 5)) tVClonem2 (.call 87 [(.lf (tSl 1 2 3))] tVClonem2 (.lf (tSl 3 6 7)) tVClonem3 (.done (.agg [(tVi 0), (tSl 2 4 5), (tSl 3 6 7)]) tVClonem0))) (.call 86 [(.lf (tSl 0 0 1))] tVClonem1 (.lf (tSl 2 4 5)) tVClonem2 (.call 87 [(.lf (tSl 1 2 3))] tVClonem2 (.lf (tSl 3 6 7)) tVClonem3 (.done (.agg [(tVi 0), (tSl 2 4 5), (tSl 3 6 7)]) tVClonem0)))) (.call 86 [(.lf (tSl 0 0 1))] tVClonem1 (.lf (tSl 2 4 5)) tVClonem2 (.call 87 [(.lf (tSl 1 2 3))] tVClonem2 (.lf (tSl 3 6 7)) tVClonem3 (.done (.agg [(tVi 0), (tSl 2 4 5), (tSl 3 6 7)]) tVClonem0)))) := by kernel_rfl
theorem vclone_any (v : Vl) (a1 : Option Addr) (c1 : Nat) (a2 : Option Addr) (c2 : Nat) (w : World) (H : VlAt w v a1 a2) : Calls Try.prog 63 #[vlV v a1 c1 a2 c2] w (VlNew w id v) := by
  refine calls_at (tab_ok _) Try.func63 rfl tVClone (ρ := ⟨[v.k], [], [], [v.cs.length, c1, v.ns.length, c2], [a1, a2]⟩) (ids := []) (hx := vlX v a1 a2) rfl (Facts.initq rfl oneNil H.X (vlX_sep H.X)) ?_
  refine par_i (par_i ?_ ?_) ?_
  all_goals
    refine node_cl (n := v.cs.length) (xs := ccells v.cs) (fun _ => #[.slice a1 v.cs.length c1]) (fun a' c' => ⟨[], [], [], [v.cs.length, c'], [a']⟩) (by intros; kernel_rfl) (fun ids w2 hp hf => scloneC_any a1 c1 v.cs w2 hf.x.1 H.l1) (by intros; kernel_rfl) (by intros; kernel_rfl) (by intros; kernel_rfl) (by intros; kernel_rfl) (fun _ _ => oneNil) ?_
    intro b1 d1 hf1
    refine node_cl (n := v.ns.length) (xs := v.ns.map (Value.int .i64)) (fun _ => #[.slice a2 v.ns.length c2]) (fun a' c' => ⟨[], [], [], [v.ns.length, c'], [a']⟩) (by intros; kernel_rfl) (fun ids w2 hp hf => scloneN_any a2 c2 v.ns w2 hf.x.1.2 H.l2) (by intros; kernel_rfl) (by intros; kernel_rfl) (by intros; kernel_rfl) (by intros; kernel_rfl) (fun _ _ => oneNil) ?_
    intro b2 d2 hf2 ids w2 hp hf
    exact ⟨b1, d1, b2, d2, rfl, ⟨hf.x.1.2, hf.x.2⟩, fun k hk => hk.elim (fun q => (hf1 k q).1) (fun q => (hf2 k q).1), hf.chg.below⟩
theorem row_isS {b : Option Addr} {n d sz e : Nat} {cs : List Value} {w : World} (hx : (HX.rw sz e b n d cs).X w) (hne : cs ≠ []) : b.isSome = true := by
  have hc : d ≠ 0 := fun q => by
    rcases hx with ⟨_, _, h3⟩ | ⟨h3, _⟩
    · exact hne h3
    · exact h3 q
  obtain ⟨g, _, rfl, _⟩ := rw_open hx hc
  rfl
/-- A copy, told of by its rows. -/
def VlRow (w : World) (v : Vl) (e : Ending) (w' : World) : Prop := ∃ a1 c1 a2 c2, e = .returned (vlV v a1 c1 a2 c2) ∧ (crow a1 v.cs.length c1 v.cs).X w' ∧ (nrow a2 v.ns.length c2 v.ns).X w' ∧ (∀ k, (crow a1 v.cs.length c1 v.cs).F k → w.heap.size ≤ k) ∧ (∀ k, (nrow a2 v.ns.length c2 v.ns).F k → w.heap.size ≤ k ∧ ¬ (crow a1 v.cs.length c1 v.cs).F k) ∧ Below w.heap.size w w'
theorem cpvr_any (v : Vl) (a1 : Option Addr) (c1 : Nat) (a2 : Option Addr) (c2 : Nat) (w : World) (H : VlAt w v a1 a2) : Calls Try.prog 33 #[vlV v a1 c1 a2 c2] w (VlRow w v) := by
  have l1 := H.l1
  have l2 := H.l2
  refine calls_at (tab_ok _) Try.func33 rfl tCpVal (ρ := ⟨[v.k], [], [], [v.cs.length, c1, v.ns.length, c2], [a1, a2]⟩) (ids := []) (hx := vlX v a1 a2) rfl (Facts.initq rfl oneNil H.X (vlX_sep H.X)) ?_
  refine node_appends (xs := []) rfl Try.underlying24 info_cmd rfl (by decide) none 0 0 (fun _ => a1) v.cs.length c1 (ccells v.cs) (ccells_len _) (fun ids w _ _ => HX.rw_nil _ _ _ w) (fun ids w2 hp hf => hf.x.1) (ccells_one _) (fun w h => ⟨h, fun _ q => q⟩) (fun k h => absurd rfl h) (fun k h => absurd rfl h) (fun k h => absurd rfl h) (by unfold maxLen; omega) (by omega) (by intros; kernel_rfl) (by intros; kernel_rfl) (by intros; kernel_rfl) (by intros; kernel_rfl) (by intros; kernel_rfl) (by intros; kernel_rfl) ?_
  intro b1 d1 _ hd1 hw1
  refine node_appends (xs := []) rfl Try.underlying25 info_int1 rfl (by decide) none 0 0 (fun _ => a2) v.ns.length c2 (v.ns.map (Value.int .i64)) (by rw [List.length_map]; omega) (fun ids w _ _ => HX.rw_nil _ _ _ w) (fun ids w2 hp hf => hf.x.1.2) (fun x hx => by obtain ⟨n, _, rfl⟩ := List.mem_map.1 hx; rfl) (fun w h => ⟨h, fun _ q => q⟩) (fun k h => absurd rfl h) (fun k h => absurd rfl h) (fun k h => absurd rfl h) (by unfold maxLen; omega) (by omega) (by intros; kernel_rfl) (by intros; kernel_rfl) (by intros; kernel_rfl) (by intros; kernel_rfl) (by intros; kernel_rfl) (by intros; kernel_rfl) ?_
  intro b2 d2 _ hd2 hw2 ids w2 hp hf
  have e1 := hf.x.1.2
  have e2 := hf.x.2
  rw [List.nil_append] at e1 e2
  have z1 : 0 + v.cs.length = v.cs.length := Nat.zero_add _
  have z2 : 0 + v.ns.length = v.ns.length := Nat.zero_add _
  rw [z1] at e1
  rw [z2] at e2
  refine ⟨b1, d1, b2, d2, ?_, e1, e2, ?_, ?_, hf.chg.below⟩
  · show Ending.returned (.agg #[.int .i64 v.k, .slice b1 (0 + v.cs.length) d1, .slice b2 (0 + v.ns.length) d2]) = _
    rw [Nat.zero_add, Nat.zero_add]; rfl
  · rintro k ⟨h1, h2⟩
    exact (hw1 k h1 h2).elim (fun q => absurd rfl q.1) (fun q => q.1)
  · rintro k ⟨h1, h2⟩
    exact ⟨(hw2 k h1 h2).elim (fun q => absurd rfl q.1) (fun q => q.1), fun q => hd2 k h1 h2 (.inr q)⟩
end Go.Proofs.Ytadgaefmoobcoaa
