/- Values: the reference's check, sameness; commands written and read. -/
import Derived.Test.YticacnankpaohaaVal1
import Derived.Test.YticacnankpaohaaQn
import Derived.Test.YticacnankpaohaaEng24
namespace Go.Proofs.Yticacnankpaohaa
open Go.ChangeShapes Go.WideShapes Go.ChangeAt Go.RowKit Go.Syn Go.Eng
set_option linter.unusedVariables false
set_option linter.unusedSimpArgs false
set_option maxRecDepth 100000
theorem rchk_any (v : Vl) (a1 : Option Addr) (c1 : Nat) (a2 : Option Addr) (c2 : Nat) (w : World) (H : VlAt w v a1 a2) : Calls Try.prog 12 #[vlV v a1 c1 a2 c2] w (PureAt w (.int .i64 (valE v))) := by
  have hl1 := H.l1
  by_cases k0 : v.k = 0
  · unfold vlV
    rw [k0]
    refine calls_at (tab_ok _) Try.func12 rfl tRChk0 (ρ := ⟨[], [], [], [v.cs.length, c1, v.ns.length, c2], [a1, a2]⟩) (ids := []) rfl (Facts.initP rfl oneNil) ?_
    by_cases h1 : v.cs = []
    · refine br_f (show ((v.cs.length : Int) != 0) = false by rw [len_ne]; simpa using h1) ?_
      by_cases h2 : v.ns = []
      · refine br_f (show ((v.ns.length : Int) != 0) = false by rw [len_ne]; simpa using h2) ?_
        have hE : valE v = firstE v.cs := by unfold valE; rw [if_pos k0, if_neg (by simp [h1, h2]), h1]; rfl
        rw [hE]
        refine loop_i (ChI v) (fun vs => v.cs.length - (vs.i.headD 0).toNat) (fun ids w2 hp hf => ⟨HX.nil, HXok.none _ _, 0, by omega, rfl, rfl, rfl⟩) ?_
        rintro vs hx' hcnt ⟨k, hk1, he, rfl, rfl⟩
        by_cases hk : k < v.cs.length
        · refine br_t (show decide ((k : Int) < (v.cs.length : Int)) = true from decide_eq_true (by omega)) ?_
          obtain ⟨c, hc⟩ : ∃ b, v.cs[k]? = some b := ⟨_, List.getElem?_eq_getElem hk⟩
          obtain ⟨s1, c1⟩ := c_elt H.c hc
          refine need_i ⟨s1, (show (0 : Int) ≤ k by omega), (show (k : Int) < v.cs.length by omega)⟩ ?_
          refine ⟨⟨c.is, [], [], [], []⟩, fun ids => c1 _ (fun q => q), ⟨rfl, oneNil⟩, ?_⟩
          refine node_val ⟨[cmdV c], [], [], [], []⟩ (fun w => rcmd_any c w) (fun _ => rfl) (fun _ => rfl) rfl rfl rfl oneNil ?_
          have hfe := firstE_drop hc
          rw [he] at hfe
          by_cases hz : cmdV c = 0
          · refine br_f (show (cmdV c != 0) = false by simpa using hz) ?_
            rw [if_neg (by simpa using hz)] at hfe
            have hwk : IntKind.i64.wrap ((k : Int) + 1) = ((k + 1 : Nat) : Int) := by rw [wrap_i64 (by omega)]; omega
            intro ids w2 hp hf
            refine ⟨HX.nil, HXok.none _ _, _, rfl, ⟨k + 1, by omega, hfe.symm, by rw [← hwk]; rfl, rfl⟩, ?_⟩
            show v.cs.length - (IntKind.i64.wrap ((k : Int) + 1)).toNat < v.cs.length - ((k : Int)).toNat
            rw [hwk]; omega
          · refine br_t (show (cmdV c != 0) = true by simpa using hz) (pure_done fun _ => ?_)
            rw [if_pos hz] at hfe
            rw [hfe]; rfl
        · refine br_f (show decide ((k : Int) < (v.cs.length : Int)) = false from decide_eq_false (by omega)) (pure_done fun _ => ?_)
          rw [← he, List.drop_of_length_le (by omega)]; rfl
      · refine br_t (show ((v.ns.length : Int) != 0) = true by rw [len_ne]; simpa using h2) (pure_done fun _ => ?_)
        unfold valE; rw [if_pos k0, if_pos (.inr h2)]; rfl
    · refine br_t (show ((v.cs.length : Int) != 0) = true by rw [len_ne]; simpa using h1) (pure_done fun _ => ?_)
      unfold valE; rw [if_pos k0, if_pos (.inl h1)]; rfl
  by_cases k2 : v.k = 2
  · unfold vlV
    rw [k2]
    refine calls_at (tab_ok _) Try.func12 rfl tRChk2 (ρ := ⟨[], [], [], [v.cs.length, c1, v.ns.length, c2], [a1, a2]⟩) (ids := []) rfl (Facts.initP rfl oneNil) ?_
    by_cases h1 : v.cs = []
    · refine br_f (show ((v.cs.length : Int) != 0) = false by rw [len_ne]; simpa using h1) ?_
      refine node_pure ⟨[], [setOkB v.ns], [], [], []⟩ rfl rfl rfl oneNil (fun ids w2 hp hf => ?_) ?_
      · exact refRight_any a2 c2 v.ns w2 (H.n.ext hf.chg.below)
      have hE : valE v = if setOkB v.ns then 0 else 24 := by unfold valE checkV; rw [if_neg k0, if_pos k2, if_neg (by simpa using h1)]
      cases hs : setOkB v.ns with
      | false =>
        rw [hE, hs]
        exact br_t rfl (pure_done fun _ => rfl)
      | true =>
        refine br_f rfl ?_
        have hE2 : valE v = firstE v.cs := by rw [hE, hs, h1]; rfl
        rw [hE2]
        refine loop_i (ChI v) (fun vs => v.cs.length - (vs.i.headD 0).toNat) (fun ids w2 hp hf => ⟨HX.nil, HXok.none _ _, 0, by omega, rfl, rfl, rfl⟩) ?_
        rintro vs hx' hcnt ⟨k, hk1, he, rfl, rfl⟩
        by_cases hk : k < v.cs.length
        · refine br_t (show decide ((k : Int) < (v.cs.length : Int)) = true from decide_eq_true (by omega)) ?_
          obtain ⟨c, hc⟩ : ∃ b, v.cs[k]? = some b := ⟨_, List.getElem?_eq_getElem hk⟩
          obtain ⟨s1, c1⟩ := c_elt H.c hc
          refine need_i ⟨s1, (show (0 : Int) ≤ k by omega), (show (k : Int) < v.cs.length by omega)⟩ ?_
          refine ⟨⟨c.is, [], [], [], []⟩, fun ids => c1 _ (fun q => q), ⟨rfl, oneNil⟩, ?_⟩
          refine node_val ⟨[cmdV c], [], [], [], []⟩ (fun w => rcmd_any c w) (fun _ => rfl) (fun _ => rfl) rfl rfl rfl oneNil ?_
          have hfe := firstE_drop hc
          rw [he] at hfe
          by_cases hz : cmdV c = 0
          · refine br_f (show (cmdV c != 0) = false by simpa using hz) ?_
            rw [if_neg (by simpa using hz)] at hfe
            have hwk : IntKind.i64.wrap ((k : Int) + 1) = ((k + 1 : Nat) : Int) := by rw [wrap_i64 (by omega)]; omega
            intro ids w2 hp hf
            refine ⟨HX.nil, HXok.none _ _, _, rfl, ⟨k + 1, by omega, hfe.symm, by rw [← hwk]; rfl, rfl⟩, ?_⟩
            show v.cs.length - (IntKind.i64.wrap ((k : Int) + 1)).toNat < v.cs.length - ((k : Int)).toNat
            rw [hwk]; omega
          · refine br_t (show (cmdV c != 0) = true by simpa using hz) (pure_done fun _ => ?_)
            rw [if_pos hz] at hfe
            rw [hfe]; rfl
        · refine br_f (show decide ((k : Int) < (v.cs.length : Int)) = false from decide_eq_false (by omega)) (pure_done fun _ => ?_)
          rw [← he, List.drop_of_length_le (by omega)]; rfl
    · refine br_t (show ((v.cs.length : Int) != 0) = true by rw [len_ne]; simpa using h1) (pure_done fun _ => ?_)
      unfold valE; rw [if_neg k0, if_pos k2, if_pos h1]; rfl
  by_cases k1 : v.k = 1
  · unfold vlV
    rw [k1]
    refine calls_at (tab_ok _) Try.func12 rfl tRChk1 (ρ := ⟨[], [], [], [v.cs.length, c1, v.ns.length, c2], [a1, a2]⟩) (ids := []) rfl (Facts.initP rfl oneNil) ?_
    have val : ∀ (b : Prop), (v.cs = [] ∨ 8 < v.cs.length ∨ v.ns ≠ []) → valE v = 25 := fun _ h => by unfold valE; rw [if_neg k0, if_neg k2, if_pos k1, if_pos h]
    by_cases h3 : v.ns = []
    · refine br_f (show ((v.ns.length : Int) != 0) = false by rw [len_ne]; simpa using h3) ?_
      by_cases h1 : v.cs = []
      · refine br_t (show ((v.cs.length : Int) == 0) = true by rw [h1]; rfl) (pure_done fun _ => ?_)
        rw [val True (.inl h1)]; rfl
      refine br_f (show ((v.cs.length : Int) == 0) = false by have := List.length_pos_iff.2 h1; simp only [beq_eq_false_iff_ne]; omega) ?_
      by_cases h2 : 8 < v.cs.length
      · refine br_t (show decide ((v.cs.length : Int) > 8) = true from decide_eq_true (by omega)) (pure_done fun _ => ?_)
        rw [val True (.inr (.inl h2))]; rfl
      refine br_f (show decide ((v.cs.length : Int) > 8) = false from decide_eq_false (by omega)) ?_
      have hE : valE v = firstE v.cs := by unfold valE; rw [if_neg k0, if_neg k2, if_pos k1, if_neg (by simp [h1, h3]; omega)]
      rw [hE]
      refine loop_i (ChI v) (fun vs => v.cs.length - (vs.i.headD 0).toNat) (fun ids w2 hp hf => ⟨HX.nil, HXok.none _ _, 0, by omega, rfl, rfl, rfl⟩) ?_
      rintro vs hx' hcnt ⟨k, hk1, he, rfl, rfl⟩
      by_cases hk : k < v.cs.length
      · refine br_t (show decide ((k : Int) < (v.cs.length : Int)) = true from decide_eq_true (by omega)) ?_
        obtain ⟨c, hc⟩ : ∃ b, v.cs[k]? = some b := ⟨_, List.getElem?_eq_getElem hk⟩
        obtain ⟨s1, c1⟩ := c_elt H.c hc
        refine need_i ⟨s1, (show (0 : Int) ≤ k by omega), (show (k : Int) < v.cs.length by omega)⟩ ?_
        refine ⟨⟨c.is, [], [], [], []⟩, fun ids => c1 _ (fun q => q), ⟨rfl, oneNil⟩, ?_⟩
        refine node_val ⟨[cmdV c], [], [], [], []⟩ (fun w => rcmd_any c w) (fun _ => rfl) (fun _ => rfl) rfl rfl rfl oneNil ?_
        have hfe := firstE_drop hc
        rw [he] at hfe
        by_cases hz : cmdV c = 0
        · refine br_f (show (cmdV c != 0) = false by simpa using hz) ?_
          rw [if_neg (by simpa using hz)] at hfe
          have hwk : IntKind.i64.wrap ((k : Int) + 1) = ((k + 1 : Nat) : Int) := by rw [wrap_i64 (by omega)]; omega
          intro ids w2 hp hf
          refine ⟨HX.nil, HXok.none _ _, _, rfl, ⟨k + 1, by omega, hfe.symm, by rw [← hwk]; rfl, rfl⟩, ?_⟩
          show v.cs.length - (IntKind.i64.wrap ((k : Int) + 1)).toNat < v.cs.length - ((k : Int)).toNat
          rw [hwk]; omega
        · refine br_t (show (cmdV c != 0) = true by simpa using hz) (pure_done fun _ => ?_)
          rw [if_pos hz] at hfe
          rw [hfe]; rfl
      · refine br_f (show decide ((k : Int) < (v.cs.length : Int)) = false from decide_eq_false (by omega)) (pure_done fun _ => ?_)
        rw [← he, List.drop_of_length_le (by omega)]; rfl
    · refine br_t (show ((v.ns.length : Int) != 0) = true by rw [len_ne]; simpa using h3) (pure_done fun _ => ?_)
      rw [val True (.inr (.inr h3))]; rfl
  · refine calls_at (tab_ok _) Try.func12 rfl tRChk (ρ := ⟨[v.k], [], [], [v.cs.length, c1, v.ns.length, c2], [a1, a2]⟩) (ids := []) rfl (Facts.initP rfl oneNil) ?_
    have hE : valE v = 25 := by unfold valE; rw [if_neg k0, if_neg k2, if_neg k1]
    by_cases hn : v.k < 0
    · refine br_t (show decide (v.k < 0) = true from decide_eq_true hn) (pure_done fun _ => ?_)
      rw [hE]; rfl
    · refine br_f (show decide (v.k < 0) = false from decide_eq_false hn) ?_
      refine br_t (show decide (v.k > 2) = true from decide_eq_true (by omega)) (pure_done fun _ => ?_)
      rw [hE]; rfl
/-! ### Sameness -/
def ItI (xs ys : List Int) (vs : Vals) (hx : HX) : Prop := ∃ k : Nat, k ≤ xs.length ∧ xs.take k = ys.take k ∧ vs = ⟨[(k : Int)], [], [], [], []⟩ ∧ hx = HX.nil
theorem ints_at {w : World} {a : Option Addr} {xs : List Int} (h : Ints w a xs) {i : Nat} {x : Int} (hi : xs[i]? = some x) : a.isSome = true ∧ ∀ (N : Nat → Prop), ¬ N ((a.getD ⟨0, 0, none⟩).block) → CellsAt w (.pointer (some (((a.getD ⟨0, 0, none⟩).add (i * 1)).add 0))) [.int .i64 x] N := ints_elt h hi
theorem intsB_any (a : Option Addr) (cap : Nat) (xs : List Int) (a2 : Option Addr) (cap2 : Nat) (ys : List Int) (w : World) (H : Ints w a xs) (H2 : Ints w a2 ys) (hl : xs.length ≤ 140737488355328) : Calls Try.prog 41 #[.slice a xs.length cap, .slice a2 ys.length cap2] w (PureAt w (.bool (decide (xs = ys)))) := by
  refine calls_at (tab_ok _) Try.func41 rfl tInts (ρ := ⟨[], [], [], [xs.length, cap, ys.length, cap2], [a, a2]⟩) (ids := []) rfl (Facts.initP rfl oneNil) ?_
  by_cases hlen : xs.length = ys.length
  · refine br_f (show ((xs.length : Int) != (ys.length : Int)) = false by simp [hlen]) ?_
    refine loop_i (ItI xs ys) (fun vs => xs.length - (vs.i.headD 0).toNat) (fun ids w2 hp hf => ⟨HX.nil, HXok.none _ _, 0, by omega, rfl, rfl, rfl⟩) ?_
    rintro vs hx' hcnt ⟨k, hk1, he, rfl, rfl⟩
    by_cases hk : k < xs.length
    · refine br_t (show decide ((k : Int) < (xs.length : Int)) = true from decide_eq_true (by omega)) ?_
      obtain ⟨x, hx⟩ : ∃ b, xs[k]? = some b := ⟨_, List.getElem?_eq_getElem hk⟩
      obtain ⟨y, hy⟩ : ∃ b, ys[k]? = some b := ⟨_, List.getElem?_eq_getElem (by omega)⟩
      obtain ⟨s1, c1⟩ := ints_at H hx
      obtain ⟨s2, c2⟩ := ints_at H2 hy
      have hst := take_step hx hy he
      have hwk : IntKind.i64.wrap ((k : Int) + 1) = ((k + 1 : Nat) : Int) := by rw [wrap_i64 (by omega)]; omega
      refine need_i ⟨s1, (show (0 : Int) ≤ k by omega), (show (k : Int) < xs.length by omega)⟩ ?_
      refine need_i ⟨s2, (show (0 : Int) ≤ k by omega), (show (k : Int) < ys.length by omega)⟩ ?_
      by_cases hxy : x = y
      · have e1 := hst.2 hxy
        have fin : ∀ {es : Vec} {m : Mem} {ρ : Env} {L : Stack}, (∀ ids, es.den ρ ids = ⟨[IntKind.i64.wrap ((k : Int) + 1)], [], [], [], []⟩) → (Tree.again 4 es m).holds ⟨Try.prog, w, fun _ => False, PureAt w (.bool (decide (xs = ys)))⟩ ρ [] HX.nil ((4, fun vs' hx'' => ItI xs ys vs' hx'' ∧ xs.length - (vs'.i.headD 0).toNat < xs.length - ((⟨[(k : Int)], [], [], [], []⟩ : Vals).i.headD 0).toNat) :: L) := by
          intro es m ρ L hes ids w2 hp hf
          refine ⟨HX.nil, HXok.none _ _, _, rfl, ?_⟩
          rw [hes]
          refine ⟨⟨k + 1, by omega, e1, by rw [hwk], rfl⟩, ?_⟩
          show xs.length - (IntKind.i64.wrap ((k : Int) + 1)).toNat < xs.length - ((k : Int)).toNat
          rw [hwk]; omega
        refine par_i ?_ ?_
        · refine ⟨⟨[x], [], [], [], []⟩, fun ids => c1 _ (fun q => q), ⟨rfl, oneNil⟩, ?_⟩
          refine ⟨⟨[y], [], [], [], []⟩, fun ids => c2 _ (fun q => q), ⟨rfl, oneNil⟩, ?_⟩
          exact br_f (show (x != y) = false by simpa using hxy) (fin (fun _ => rfl))
        · refine ⟨⟨[y], [], [], [], []⟩, fun ids => c2 _ (fun q => q), ⟨rfl, oneNil⟩, ?_⟩
          refine ⟨⟨[x], [], [], [], []⟩, fun ids => c1 _ (fun q => q), ⟨rfl, oneNil⟩, ?_⟩
          exact br_f (show (x != y) = false by simpa using hxy) (fin (fun _ => rfl))
      · have hne : ¬ xs = ys := fun e => hxy (by rw [e] at hx; rw [hx] at hy; exact Option.some.inj hy)
        have fin : ∀ {m : Mem} {ρ : Env} {L : Stack} {hx : HX}, (Tree.done (.lf (.bool (.lit false))) m).holds ⟨Try.prog, w, fun _ => False, PureAt w (.bool (decide (xs = ys)))⟩ ρ [] hx L := pure_done fun _ => by rw [decide_eq_false hne]; rfl
        refine par_i ?_ ?_
        · refine ⟨⟨[x], [], [], [], []⟩, fun ids => c1 _ (fun q => q), ⟨rfl, oneNil⟩, ?_⟩
          refine ⟨⟨[y], [], [], [], []⟩, fun ids => c2 _ (fun q => q), ⟨rfl, oneNil⟩, ?_⟩
          exact br_t (show (x != y) = true by simpa using hxy) fin
        · refine ⟨⟨[y], [], [], [], []⟩, fun ids => c2 _ (fun q => q), ⟨rfl, oneNil⟩, ?_⟩
          refine ⟨⟨[x], [], [], [], []⟩, fun ids => c1 _ (fun q => q), ⟨rfl, oneNil⟩, ?_⟩
          exact br_t (show (x != y) = true by simpa using hxy) fin
    · refine br_f (show decide ((k : Int) < (xs.length : Int)) = false from decide_eq_false (by omega)) (pure_done fun _ => ?_)
      have e : xs = ys := by rw [List.take_of_length_le (by omega), List.take_of_length_le (by omega)] at he; exact he
      rw [decide_eq_true e]; rfl
  · refine br_t (show ((xs.length : Int) != (ys.length : Int)) = true by simp only [bne_iff_ne, ne_eq]; omega) (pure_done fun _ => ?_)
    rw [decide_eq_false (fun e => hlen (by rw [e]))]; rfl
def cmdEq (c d : CmD) : Bool := (c.sess == d.sess) && ((c.seq == d.seq) && ((c.ack == d.ack) && ((c.op.kind == d.op.kind) && ((c.op.reg == d.op.reg) && ((c.op.tg == d.op.tg) && ((c.op.re == d.op.re) && (c.op.im == d.op.im)))))))
theorem cmdEq_iff (c d : CmD) : cmdEq c d = true ↔ c = d := by
  obtain ⟨a1, a2, a3, ⟨a4, a5, a6, a7, a8⟩⟩ := c
  obtain ⟨b1, b2, b3, ⟨b4, b5, b6, b7, b8⟩⟩ := d
  simp [cmdEq]
def sameV6 (v u : Vl) : Prop := v.k = u.k ∧ v.cs = u.cs ∧ v.ns = u.ns
theorem same_ext {v u : Vl} : sameV6 v u ↔ v = u := by
  obtain ⟨a, b, c⟩ := v
  obtain ⟨d, e, f⟩ := u
  simp [sameV6]
open Classical in
noncomputable def vlSame (v u : Vl) : Bool := decide (v = u)
theorem vlSame_f {v u : Vl} (h : ¬ v = u) : vlSame v u = false := @decide_eq_false _ (Classical.propDecidable _) h
theorem vlSame_t {v u : Vl} (h : v = u) : vlSame v u = true := @decide_eq_true _ (Classical.propDecidable _) h
theorem take_step' {α : Type} {xs ys : List α} {k : Nat} {x y : α} (hx : xs[k]? = some x) (hy : ys[k]? = some y) (h : xs.take k = ys.take k) : xs.take (k + 1) = ys.take (k + 1) ↔ x = y := by
  rw [List.take_add_one, List.take_add_one, hx, hy, h]
  simp
def SvI (v u : Vl) (vs : Vals) (hx : HX) : Prop := ∃ k : Nat, k ≤ v.cs.length ∧ v.cs.take k = u.cs.take k ∧ vs = ⟨[(k : Int)], [], [], [], []⟩ ∧ hx = HX.nil
theorem samev_any (v : Vl) (a1 : Option Addr) (c1 : Nat) (a2 : Option Addr) (c2 : Nat) (u : Vl) (b1 : Option Addr) (d1 : Nat) (b2 : Option Addr) (d2 : Nat) (w : World) (H : VlAt w v a1 a2) (H2 : VlAt w u b1 b2) : Calls Try.prog 21 #[vlV v a1 c1 a2 c2, vlV u b1 d1 b2 d2] w (PureAt w (.bool (vlSame v u))) := by
  have hl1 := H.l1
  have hl2 := H.l2
  have no : ∀ {v u : Vl}, ¬ v = u → vlSame v u = false := fun h => vlSame_f h
  have yes : ∀ {v u : Vl}, v = u → vlSame v u = true := fun h => vlSame_t h
  refine calls_at (tab_ok _) Try.func21 rfl tSameV (ρ := ⟨[v.k, u.k], [], [], [v.cs.length, c1, v.ns.length, c2, u.cs.length, d1, u.ns.length, d2], [a1, a2, b1, b2]⟩) (ids := []) rfl (Facts.initP rfl oneNil) ?_
  by_cases hk : v.k = u.k
  · refine br_f (show (v.k != u.k) = false by simpa using hk) ?_
    by_cases hlen : v.cs.length = u.cs.length
    · refine br_f (show ((v.cs.length : Int) != (u.cs.length : Int)) = false by simp [hlen]) ?_
      refine node_pure ⟨[], [decide (v.ns = u.ns)], [], [], []⟩ rfl rfl rfl oneNil (fun ids w2 hp hf => ?_) ?_
      · exact intsB_any a2 c2 v.ns b2 d2 u.ns w2 (H.n.ext hf.chg.below) (H2.n.ext hf.chg.below) (by omega)
      by_cases hns : v.ns = u.ns
      · refine br_f (show (!decide (v.ns = u.ns)) = false by simp [hns]) ?_
        refine loop_i (SvI v u) (fun vs => v.cs.length - (vs.i.headD 0).toNat) (fun ids w2 hp hf => ⟨HX.nil, HXok.none _ _, 0, by omega, rfl, rfl, rfl⟩) ?_
        rintro vs hx' hcnt ⟨k, hk1, he, rfl, rfl⟩
        by_cases hkl : k < v.cs.length
        · refine br_t (show decide ((k : Int) < (v.cs.length : Int)) = true from decide_eq_true (by omega)) ?_
          obtain ⟨x, hx⟩ : ∃ b, v.cs[k]? = some b := ⟨_, List.getElem?_eq_getElem hkl⟩
          obtain ⟨y, hy⟩ : ∃ b, u.cs[k]? = some b := ⟨_, List.getElem?_eq_getElem (by omega)⟩
          obtain ⟨s1, q1⟩ := c_elt H.c hx
          obtain ⟨s2, q2⟩ := c_elt H2.c hy
          have hst := take_step' hx hy he
          have hwk : IntKind.i64.wrap ((k : Int) + 1) = ((k + 1 : Nat) : Int) := by rw [wrap_i64 (by omega)]; omega
          refine need_i ⟨s1, (show (0 : Int) ≤ k by omega), (show (k : Int) < v.cs.length by omega)⟩ ?_
          refine need_i ⟨s2, (show (0 : Int) ≤ k by omega), (show (k : Int) < u.cs.length by omega)⟩ ?_
          by_cases hxy : x = y
          · have e1 := hst.2 hxy
            have hce : (!cmdEq x y) = false := by rw [(cmdEq_iff x y).2 hxy]; rfl
            have fin : ∀ {es : Vec} {m : Mem} {ρ : Env} {L : Stack}, (∀ ids, es.den ρ ids = ⟨[IntKind.i64.wrap ((k : Int) + 1)], [], [], [], []⟩) → (Tree.again 4 es m).holds ⟨Try.prog, w, fun _ => False, PureAt w (.bool (vlSame v u))⟩ ρ [] HX.nil ((4, fun vs' hx'' => SvI v u vs' hx'' ∧ v.cs.length - (vs'.i.headD 0).toNat < v.cs.length - ((⟨[(k : Int)], [], [], [], []⟩ : Vals).i.headD 0).toNat) :: L) := by
              intro es m ρ L hes ids w2 hp hf
              refine ⟨HX.nil, HXok.none _ _, _, rfl, ?_⟩
              rw [hes]
              refine ⟨⟨k + 1, by omega, e1, by rw [hwk], rfl⟩, ?_⟩
              show v.cs.length - (IntKind.i64.wrap ((k : Int) + 1)).toNat < v.cs.length - ((k : Int)).toNat
              rw [hwk]; omega
            refine par_i ?_ ?_
            · refine ⟨⟨x.is, [], [], [], []⟩, fun ids => q1 _ (fun q => q), ⟨rfl, oneNil⟩, ?_⟩
              refine ⟨⟨y.is, [], [], [], []⟩, fun ids => q2 _ (fun q => q), ⟨rfl, oneNil⟩, ?_⟩
              exact br_f (Eq.trans (b := !cmdEq x y) (by kernel_rfl) hce) (fin (fun _ => rfl))
            · refine ⟨⟨y.is, [], [], [], []⟩, fun ids => q2 _ (fun q => q), ⟨rfl, oneNil⟩, ?_⟩
              refine ⟨⟨x.is, [], [], [], []⟩, fun ids => q1 _ (fun q => q), ⟨rfl, oneNil⟩, ?_⟩
              exact br_f (Eq.trans (b := !cmdEq x y) (by kernel_rfl) hce) (fin (fun _ => rfl))
          · have hce : (!cmdEq x y) = true := by
              have : cmdEq x y = false := by
                cases h : cmdEq x y with
                | false => rfl
                | true => exact absurd ((cmdEq_iff x y).1 h) hxy
              rw [this]; rfl
            have hne : ¬ v = u := fun e => hxy (by rw [e] at hx; rw [hx] at hy; exact Option.some.inj hy)
            have fin : ∀ {m : Mem} {ρ : Env} {L : Stack} {hx : HX}, (Tree.done (.lf (.bool (.lit false))) m).holds ⟨Try.prog, w, fun _ => False, PureAt w (.bool (vlSame v u))⟩ ρ [] hx L := pure_done fun _ => by rw [no hne]; rfl
            refine par_i ?_ ?_
            · refine ⟨⟨x.is, [], [], [], []⟩, fun ids => q1 _ (fun q => q), ⟨rfl, oneNil⟩, ?_⟩
              refine ⟨⟨y.is, [], [], [], []⟩, fun ids => q2 _ (fun q => q), ⟨rfl, oneNil⟩, ?_⟩
              exact br_t (Eq.trans (b := !cmdEq x y) (by kernel_rfl) hce) fin
            · refine ⟨⟨y.is, [], [], [], []⟩, fun ids => q2 _ (fun q => q), ⟨rfl, oneNil⟩, ?_⟩
              refine ⟨⟨x.is, [], [], [], []⟩, fun ids => q1 _ (fun q => q), ⟨rfl, oneNil⟩, ?_⟩
              exact br_t (Eq.trans (b := !cmdEq x y) (by kernel_rfl) hce) fin
        · refine br_f (show decide ((k : Int) < (v.cs.length : Int)) = false from decide_eq_false (by omega)) (pure_done fun _ => ?_)
          have e : v.cs = u.cs := by rw [List.take_of_length_le (by omega), List.take_of_length_le (by omega)] at he; exact he
          rw [yes (same_ext.1 ⟨hk, e, hns⟩)]; rfl
      · refine br_t (show (!decide (v.ns = u.ns)) = true by simp [hns]) (pure_done fun _ => ?_)
        rw [no (fun e => hns (by rw [e]))]; rfl
    · refine br_t (show ((v.cs.length : Int) != (u.cs.length : Int)) = true by simp only [bne_iff_ne, ne_eq]; omega) (pure_done fun _ => ?_)
      rw [no (fun e => hlen (by rw [e]))]; rfl
  · refine br_t (show (v.k != u.k) = true by simpa using hk) (pure_done fun _ => ?_)
    rw [no (fun e => hk (by rw [e]))]; rfl
/-! ### Commands written and read -/
def cmdB (c : CmD) : List Int := c.is.flatMap fun i => numB (foldN i)
theorem numB_len {u : Nat} (h : u < 2 ^ 64) : (numB u).length ≤ 9 := by
  unfold numB
  rw [List.length_cons, digs_len]
  have := nlen_8 h
  omega
theorem numI_len {i : Int} (h : I64 i) : (numB (foldN i)).length ≤ 9 := numB_len (foldN_lt h)
theorem putcmd_any (nb : Nat) (a : Option Addr) (cap : Nat) (bs : List Int) (c : CmD) (hi : ∀ i ∈ c.is, I64 i) (w : World) (H : WAt w nb a cap bs) (hl : bs.length + 72 ≤ 140737488355328) : Calls Try.prog 24 #[.pointer (some ⟨nb, 0, none⟩), .agg c.cells.toArray] w (WR w nb a cap (bs ++ cmdB c) (.tuple #[])) := by
  have i0 : I64 c.sess := hi _ (by simp [CmD.is])
  have n0 := numI_len i0
  obtain ⟨b0, e0⟩ : ∃ b, b = bs ++ numB (foldN c.sess) := ⟨_, rfl⟩
  have l0 : b0.length = bs.length + (numB (foldN c.sess)).length := by rw [e0, List.length_append]
  have i1 : I64 c.seq := hi _ (by simp [CmD.is])
  have n1 := numI_len i1
  obtain ⟨b1, e1⟩ : ∃ b, b = b0 ++ numB (foldN c.seq) := ⟨_, rfl⟩
  have l1 : b1.length = b0.length + (numB (foldN c.seq)).length := by rw [e1, List.length_append]
  have i2 : I64 c.ack := hi _ (by simp [CmD.is])
  have n2 := numI_len i2
  obtain ⟨b2, e2⟩ : ∃ b, b = b1 ++ numB (foldN c.ack) := ⟨_, rfl⟩
  have l2 : b2.length = b1.length + (numB (foldN c.ack)).length := by rw [e2, List.length_append]
  have i3 : I64 c.op.kind := hi _ (by simp [CmD.is])
  have n3 := numI_len i3
  obtain ⟨b3, e3⟩ : ∃ b, b = b2 ++ numB (foldN c.op.kind) := ⟨_, rfl⟩
  have l3 : b3.length = b2.length + (numB (foldN c.op.kind)).length := by rw [e3, List.length_append]
  have i4 : I64 c.op.reg := hi _ (by simp [CmD.is])
  have n4 := numI_len i4
  obtain ⟨b4, e4⟩ : ∃ b, b = b3 ++ numB (foldN c.op.reg) := ⟨_, rfl⟩
  have l4 : b4.length = b3.length + (numB (foldN c.op.reg)).length := by rw [e4, List.length_append]
  have i5 : I64 c.op.tg := hi _ (by simp [CmD.is])
  have n5 := numI_len i5
  obtain ⟨b5, e5⟩ : ∃ b, b = b4 ++ numB (foldN c.op.tg) := ⟨_, rfl⟩
  have l5 : b5.length = b4.length + (numB (foldN c.op.tg)).length := by rw [e5, List.length_append]
  have i6 : I64 c.op.re := hi _ (by simp [CmD.is])
  have n6 := numI_len i6
  obtain ⟨b6, e6⟩ : ∃ b, b = b5 ++ numB (foldN c.op.re) := ⟨_, rfl⟩
  have l6 : b6.length = b5.length + (numB (foldN c.op.re)).length := by rw [e6, List.length_append]
  have i7 : I64 c.op.im := hi _ (by simp [CmD.is])
  have n7 := numI_len i7
  obtain ⟨b7, e7⟩ : ∃ b, b = b6 ++ numB (foldN c.op.im) := ⟨_, rfl⟩
  have l7 : b7.length = b6.length + (numB (foldN c.op.im)).length := by rw [e7, List.length_append]
  have hall : bs ++ cmdB c = b7 := by
    rw [e7, e6, e5, e4, e3, e2, e1, e0]; simp [cmdB, CmD.is, List.append_assoc]
  rw [hall]
  refine calls_at (tab_ok _) Try.func24 rfl tPutCmd (ρ := ⟨c.is, [], [], [bs.length, cap], [a]⟩) (ids := [nb]) (hx := HX.nil.and (frow a cap bs)) (M := fun x => x = nb ∨ (cap ≠ 0 ∧ abk a = some x)) rfl (Facts.initx rfl oneNil H.blk rfl (.inl rfl) ⟨trivial, H.mem⟩ (fun k hk => hk.elim (fun q => q.elim) (H.sep k))) ?_
  refine node_wr (bs := bs) (bs' := b0) 0 (fun a' c' => ⟨[], [], [], [b0.length, c'], [a']⟩) (fun ids => .pointer (some ⟨idAt ids 0, 0, none⟩)) (fun ids => #[.pointer (some ⟨idAt ids 0, 0, none⟩), .int .i64 c.sess]) rfl rfl (by intros; kernel_rfl) (fun k h1 h2 => .inr (.inr ⟨h1, h2⟩)) (fun k _ _ q => q.elim) (by intros; kernel_rfl) (fun ids w2 hp hf HW => by rw [e0]; exact wint_any _ a cap bs c.sess i0 w2 HW (by omega)) [.sl 1 (.var 2) (.var 3)] rfl (by intros; kernel_rfl) (by intros; kernel_rfl) rfl (fun _ _ => rfl) (fun _ _ => oneNil) ?_
  intro a1 c1 hk1 hf1
  refine node_wr (bs := b0) (bs' := b1) 0 (fun a' c' => ⟨[], [], [], [b1.length, c'], [a']⟩) (fun ids => .pointer (some ⟨idAt ids 0, 0, none⟩)) (fun ids => #[.pointer (some ⟨idAt ids 0, 0, none⟩), .int .i64 c.seq]) rfl rfl (by intros; kernel_rfl) (fun k h1 h2 => (hk1 k h1 h2).1) (fun k _ _ q => q.elim) (by intros; kernel_rfl) (fun ids w2 hp hf HW => by rw [e1]; exact wint_any _ a1 c1 b0 c.seq i1 w2 HW (by omega)) [.sl 2 (.var 4) (.var 5)] rfl (by intros; kernel_rfl) (by intros; kernel_rfl) rfl (fun _ _ => rfl) (fun _ _ => oneNil) ?_
  intro a2 c2 hk2 hf2
  refine node_wr (bs := b1) (bs' := b2) 0 (fun a' c' => ⟨[], [], [], [b2.length, c'], [a']⟩) (fun ids => .pointer (some ⟨idAt ids 0, 0, none⟩)) (fun ids => #[.pointer (some ⟨idAt ids 0, 0, none⟩), .int .i64 c.ack]) rfl rfl (by intros; kernel_rfl) (fun k h1 h2 => (hk2 k h1 h2).1) (fun k _ _ q => q.elim) (by intros; kernel_rfl) (fun ids w2 hp hf HW => by rw [e2]; exact wint_any _ a2 c2 b1 c.ack i2 w2 HW (by omega)) [.sl 3 (.var 6) (.var 7)] rfl (by intros; kernel_rfl) (by intros; kernel_rfl) rfl (fun _ _ => rfl) (fun _ _ => oneNil) ?_
  intro a3 c3 hk3 hf3
  refine node_wr (bs := b2) (bs' := b3) 0 (fun a' c' => ⟨[], [], [], [b3.length, c'], [a']⟩) (fun ids => .pointer (some ⟨idAt ids 0, 0, none⟩)) (fun ids => #[.pointer (some ⟨idAt ids 0, 0, none⟩), .int .i64 c.op.kind]) rfl rfl (by intros; kernel_rfl) (fun k h1 h2 => (hk3 k h1 h2).1) (fun k _ _ q => q.elim) (by intros; kernel_rfl) (fun ids w2 hp hf HW => by rw [e3]; exact wint_any _ a3 c3 b2 c.op.kind i3 w2 HW (by omega)) [.sl 4 (.var 8) (.var 9)] rfl (by intros; kernel_rfl) (by intros; kernel_rfl) rfl (fun _ _ => rfl) (fun _ _ => oneNil) ?_
  intro a4 c4 hk4 hf4
  refine node_wr (bs := b3) (bs' := b4) 0 (fun a' c' => ⟨[], [], [], [b4.length, c'], [a']⟩) (fun ids => .pointer (some ⟨idAt ids 0, 0, none⟩)) (fun ids => #[.pointer (some ⟨idAt ids 0, 0, none⟩), .int .i64 c.op.reg]) rfl rfl (by intros; kernel_rfl) (fun k h1 h2 => (hk4 k h1 h2).1) (fun k _ _ q => q.elim) (by intros; kernel_rfl) (fun ids w2 hp hf HW => by rw [e4]; exact wint_any _ a4 c4 b3 c.op.reg i4 w2 HW (by omega)) [.sl 5 (.var 10) (.var 11)] rfl (by intros; kernel_rfl) (by intros; kernel_rfl) rfl (fun _ _ => rfl) (fun _ _ => oneNil) ?_
  intro a5 c5 hk5 hf5
  refine node_wr (bs := b4) (bs' := b5) 0 (fun a' c' => ⟨[], [], [], [b5.length, c'], [a']⟩) (fun ids => .pointer (some ⟨idAt ids 0, 0, none⟩)) (fun ids => #[.pointer (some ⟨idAt ids 0, 0, none⟩), .int .i64 c.op.tg]) rfl rfl (by intros; kernel_rfl) (fun k h1 h2 => (hk5 k h1 h2).1) (fun k _ _ q => q.elim) (by intros; kernel_rfl) (fun ids w2 hp hf HW => by rw [e5]; exact wint_any _ a5 c5 b4 c.op.tg i5 w2 HW (by omega)) [.sl 6 (.var 12) (.var 13)] rfl (by intros; kernel_rfl) (by intros; kernel_rfl) rfl (fun _ _ => rfl) (fun _ _ => oneNil) ?_
  intro a6 c6 hk6 hf6
  refine node_wr (bs := b5) (bs' := b6) 0 (fun a' c' => ⟨[], [], [], [b6.length, c'], [a']⟩) (fun ids => .pointer (some ⟨idAt ids 0, 0, none⟩)) (fun ids => #[.pointer (some ⟨idAt ids 0, 0, none⟩), .int .i64 c.op.re]) rfl rfl (by intros; kernel_rfl) (fun k h1 h2 => (hk6 k h1 h2).1) (fun k _ _ q => q.elim) (by intros; kernel_rfl) (fun ids w2 hp hf HW => by rw [e6]; exact wint_any _ a6 c6 b5 c.op.re i6 w2 HW (by omega)) [.sl 7 (.var 14) (.var 15)] rfl (by intros; kernel_rfl) (by intros; kernel_rfl) rfl (fun _ _ => rfl) (fun _ _ => oneNil) ?_
  intro a7 c7 hk7 hf7
  refine node_wr (bs := b6) (bs' := b7) 0 (fun a' c' => ⟨[], [], [], [b7.length, c'], [a']⟩) (fun ids => .pointer (some ⟨idAt ids 0, 0, none⟩)) (fun ids => #[.pointer (some ⟨idAt ids 0, 0, none⟩), .int .i64 c.op.im]) rfl rfl (by intros; kernel_rfl) (fun k h1 h2 => (hk7 k h1 h2).1) (fun k _ _ q => q.elim) (by intros; kernel_rfl) (fun ids w2 hp hf HW => by rw [e7]; exact wint_any _ a7 c7 b6 c.op.im i7 w2 HW (by omega)) [.sl 8 (.var 16) (.var 17)] rfl (by intros; kernel_rfl) (by intros; kernel_rfl) rfl (fun _ _ => rfl) (fun _ _ => oneNil) ?_
  intro a8 c8 hk8 hf8
  intro ids w2 hp hf
  refine ⟨a8, c8, rfl, ?_, hf.x.2, hf.chg, fun k h1 h2 => ?_⟩
  · have := hf.blkAt 0 rfl
    rw [idAt0 hp] at this
    exact this
  · have go : ∀ {b0 b1 b2 : Prop}, (b1 ∨ b2) → (b1 → b0 ∨ b2) → b0 ∨ b2 := fun h f => h.elim f .inr
    refine go (hf8 k h1 h2) fun q => go (hf7 k q.1 q.2) fun q => go (hf6 k q.1 q.2) fun q => go (hf5 k q.1 q.2) fun q => go (hf4 k q.1 q.2) fun q => go (hf3 k q.1 q.2) fun q => go (hf2 k q.1 q.2) fun q => hf1 k q.1 q.2
end Go.Proofs.Yticacnankpaohaa
