/- Part 18 of the texts of a proof about the given program: what the statement's proof needs of them. -/
import Derived.Test.YtfjiolgdcphjhaaKExecutorOnce17
namespace Go.Proofs.Ytfjiolgdcphjhaa
open Go.ChangeShapes Go.WideShapes Go.ChangeAt Go.RowKit Go.Syn Go.Eng
set_option linter.unusedVariables false
set_option linter.unusedSimpArgs false
set_option maxRecDepth 100000
theorem take_stepV {α : Type} {xs ys : List α} {k : Nat} {x y : α} (hx : xs[k]? = some x) (hy : ys[k]? = some y) (h : xs.take k = ys.take k) : xs.take (k + 1) = ys.take (k + 1) ↔ x = y := by
  rw [List.take_add_one, List.take_add_one, hx, hy, h]
  simp
theorem rchk_any (v : Vl) (a1 : Option Addr) (c1 : Nat) (a2 : Option Addr) (c2 : Nat) (w : World) (H : VlAt w v a1 a2) : Calls Try.prog 19 #[vlV v a1 c1 a2 c2] w (PureAt w (.int .i64 (valE v))) := by
  have hl1 := H.l1
  by_cases k0 : v.k = 0
  · unfold vlV
    rw [k0]
    refine calls_at (tab_ok _) Try.func19 rfl tRChk0 (ρ := ⟨[], [], [], [v.cs.length, c1, v.ns.length, c2], [a1, a2]⟩) (ids := []) rfl (Facts.initP rfl oneNil) ?_
    by_cases h1 : v.cs = []
    · refine br_f (show ((v.cs.length : Int) != 0) = false by rw [len_ne]; simpa using h1) ?_
      by_cases h2 : v.ns = []
      · refine br_f (show ((v.ns.length : Int) != 0) = false by rw [len_ne]; simpa using h2) ?_
        have hE : valE v = firstE v.cs := by unfold valE; rw [if_pos k0, if_neg (by simp [h1, h2]), h1]; rfl
        rw [hE]
        refine loop_i (ChI v) (fun vs => v.cs.length - (vs.i.headD 0).toNat) (fun ids w2 hp hf => ⟨HX.nil, HXok.none _ _, 0, by omega, rfl, rfl, rfl⟩) ?_
        rintro vs hx' hcnt ⟨k, hk1, he, rfl, rfl⟩
        by_cases hk : k < v.cs.length
        · refine br_t (show decide ((k : Int) < (v.cs.length : Int)) = true from decide_eq_true (by omega)) ?_
          obtain ⟨c, hc⟩ : ∃ b, v.cs[k]? = some b := ⟨_, List.getElem?_eq_getElem hk⟩
          obtain ⟨s1, c1⟩ := c_elt H.c hc
          refine need_i ⟨s1, (show (0 : Int) ≤ k by omega), (show (k : Int) < v.cs.length by omega)⟩ ?_
          refine ⟨⟨c.is, [], [], [], []⟩, fun ids => c1 _ (fun q => q), ⟨rfl, oneNil⟩, ?_⟩
          refine node_val ⟨[cmdV c], [], [], [], []⟩ (fun w => rcmd_any c w) (fun _ => rfl) (fun _ => rfl) rfl rfl rfl oneNil ?_
          have hfe := firstE_drop hc
          rw [he] at hfe
          by_cases hz : cmdV c = 0
          · refine br_f (show (cmdV c != 0) = false by simpa using hz) ?_
            rw [if_neg (by simpa using hz)] at hfe
            have hwk : IntKind.i64.wrap ((k : Int) + 1) = ((k + 1 : Nat) : Int) := by rw [wrap_i64 (by omega)]; omega
            intro ids w2 hp hf
            refine ⟨HX.nil, HXok.none _ _, _, rfl, ⟨k + 1, by omega, hfe.symm, by rw [← hwk]; rfl, rfl⟩, ?_⟩
            show v.cs.length - (IntKind.i64.wrap ((k : Int) + 1)).toNat < v.cs.length - ((k : Int)).toNat
            rw [hwk]; omega
          · refine br_t (show (cmdV c != 0) = true by simpa using hz) (pure_done fun _ => ?_)
            rw [if_pos hz] at hfe
            rw [hfe]; rfl
        · refine br_f (show decide ((k : Int) < (v.cs.length : Int)) = false from decide_eq_false (by omega)) (pure_done fun _ => ?_)
          rw [← he, List.drop_of_length_le (by omega)]; rfl
      · refine br_t (show ((v.ns.length : Int) != 0) = true by rw [len_ne]; simpa using h2) (pure_done fun _ => ?_)
        unfold valE; rw [if_pos k0, if_pos (.inr h2)]; rfl
    · refine br_t (show ((v.cs.length : Int) != 0) = true by rw [len_ne]; simpa using h1) (pure_done fun _ => ?_)
      unfold valE; rw [if_pos k0, if_pos (.inl h1)]; rfl
  by_cases k2 : v.k = 2
  · unfold vlV
    rw [k2]
    refine calls_at (tab_ok _) Try.func19 rfl tRChk2 (ρ := ⟨[], [], [], [v.cs.length, c1, v.ns.length, c2], [a1, a2]⟩) (ids := []) rfl (Facts.initP rfl oneNil) ?_
    by_cases h1 : v.cs = []
    · refine br_f (show ((v.cs.length : Int) != 0) = false by rw [len_ne]; simpa using h1) ?_
      refine node_pure ⟨[], [setOkB v.ns], [], [], []⟩ rfl rfl rfl oneNil (fun ids w2 hp hf => ?_) ?_
      · exact refRight_any a2 c2 v.ns w2 (H.n.ext hf.chg.below)
      have hE : valE v = if setOkB v.ns then 0 else 24 := by unfold valE checkV; rw [if_neg k0, if_pos k2, if_neg (by simpa using h1)]
      cases hs : setOkB v.ns with
      | false =>
        rw [hE, hs]
        exact br_t rfl (pure_done fun _ => rfl)
      | true =>
        refine br_f rfl ?_
        have hE2 : valE v = firstE v.cs := by rw [hE, hs, h1]; rfl
        rw [hE2]
        refine loop_i (ChI v) (fun vs => v.cs.length - (vs.i.headD 0).toNat) (fun ids w2 hp hf => ⟨HX.nil, HXok.none _ _, 0, by omega, rfl, rfl, rfl⟩) ?_
        rintro vs hx' hcnt ⟨k, hk1, he, rfl, rfl⟩
        by_cases hk : k < v.cs.length
        · refine br_t (show decide ((k : Int) < (v.cs.length : Int)) = true from decide_eq_true (by omega)) ?_
          obtain ⟨c, hc⟩ : ∃ b, v.cs[k]? = some b := ⟨_, List.getElem?_eq_getElem hk⟩
          obtain ⟨s1, c1⟩ := c_elt H.c hc
          refine need_i ⟨s1, (show (0 : Int) ≤ k by omega), (show (k : Int) < v.cs.length by omega)⟩ ?_
          refine ⟨⟨c.is, [], [], [], []⟩, fun ids => c1 _ (fun q => q), ⟨rfl, oneNil⟩, ?_⟩
          refine node_val ⟨[cmdV c], [], [], [], []⟩ (fun w => rcmd_any c w) (fun _ => rfl) (fun _ => rfl) rfl rfl rfl oneNil ?_
          have hfe := firstE_drop hc
          rw [he] at hfe
          by_cases hz : cmdV c = 0
          · refine br_f (show (cmdV c != 0) = false by simpa using hz) ?_
            rw [if_neg (by simpa using hz)] at hfe
            have hwk : IntKind.i64.wrap ((k : Int) + 1) = ((k + 1 : Nat) : Int) := by rw [wrap_i64 (by omega)]; omega
            intro ids w2 hp hf
            refine ⟨HX.nil, HXok.none _ _, _, rfl, ⟨k + 1, by omega, hfe.symm, by rw [← hwk]; rfl, rfl⟩, ?_⟩
            show v.cs.length - (IntKind.i64.wrap ((k : Int) + 1)).toNat < v.cs.length - ((k : Int)).toNat
            rw [hwk]; omega
          · refine br_t (show (cmdV c != 0) = true by simpa using hz) (pure_done fun _ => ?_)
            rw [if_pos hz] at hfe
            rw [hfe]; rfl
        · refine br_f (show decide ((k : Int) < (v.cs.length : Int)) = false from decide_eq_false (by omega)) (pure_done fun _ => ?_)
          rw [← he, List.drop_of_length_le (by omega)]; rfl
    · refine br_t (show ((v.cs.length : Int) != 0) = true by rw [len_ne]; simpa using h1) (pure_done fun _ => ?_)
      unfold valE; rw [if_neg k0, if_pos k2, if_pos h1]; rfl
  by_cases k1 : v.k = 1
  · unfold vlV
    rw [k1]
    refine calls_at (tab_ok _) Try.func19 rfl tRChk1 (ρ := ⟨[], [], [], [v.cs.length, c1, v.ns.length, c2], [a1, a2]⟩) (ids := []) rfl (Facts.initP rfl oneNil) ?_
    have val : ∀ (b : Prop), (v.cs = [] ∨ 8 < v.cs.length ∨ v.ns ≠ []) → valE v = 25 := fun _ h => by unfold valE; rw [if_neg k0, if_neg k2, if_pos k1, if_pos h]
    by_cases h3 : v.ns = []
    · refine br_f (show ((v.ns.length : Int) != 0) = false by rw [len_ne]; simpa using h3) ?_
      by_cases h1 : v.cs = []
      · refine br_t (show ((v.cs.length : Int) == 0) = true by rw [h1]; rfl) (pure_done fun _ => ?_)
        rw [val True (.inl h1)]; rfl
      refine br_f (show ((v.cs.length : Int) == 0) = false by have := List.length_pos_iff.2 h1; simp only [beq_eq_false_iff_ne]; omega) ?_
      by_cases h2 : 8 < v.cs.length
      · refine br_t (show decide ((v.cs.length : Int) > 8) = true from decide_eq_true (by omega)) (pure_done fun _ => ?_)
        rw [val True (.inr (.inl h2))]; rfl
      refine br_f (show decide ((v.cs.length : Int) > 8) = false from decide_eq_false (by omega)) ?_
      have hE : valE v = firstE v.cs := by unfold valE; rw [if_neg k0, if_neg k2, if_pos k1, if_neg (by simp [h1, h3]; omega)]
      rw [hE]
      refine loop_i (ChI v) (fun vs => v.cs.length - (vs.i.headD 0).toNat) (fun ids w2 hp hf => ⟨HX.nil, HXok.none _ _, 0, by omega, rfl, rfl, rfl⟩) ?_
      rintro vs hx' hcnt ⟨k, hk1, he, rfl, rfl⟩
      by_cases hk : k < v.cs.length
      · refine br_t (show decide ((k : Int) < (v.cs.length : Int)) = true from decide_eq_true (by omega)) ?_
        obtain ⟨c, hc⟩ : ∃ b, v.cs[k]? = some b := ⟨_, List.getElem?_eq_getElem hk⟩
        obtain ⟨s1, c1⟩ := c_elt H.c hc
        refine need_i ⟨s1, (show (0 : Int) ≤ k by omega), (show (k : Int) < v.cs.length by omega)⟩ ?_
        refine ⟨⟨c.is, [], [], [], []⟩, fun ids => c1 _ (fun q => q), ⟨rfl, oneNil⟩, ?_⟩
        refine node_val ⟨[cmdV c], [], [], [], []⟩ (fun w => rcmd_any c w) (fun _ => rfl) (fun _ => rfl) rfl rfl rfl oneNil ?_
        have hfe := firstE_drop hc
        rw [he] at hfe
        by_cases hz : cmdV c = 0
        · refine br_f (show (cmdV c != 0) = false by simpa using hz) ?_
          rw [if_neg (by simpa using hz)] at hfe
          have hwk : IntKind.i64.wrap ((k : Int) + 1) = ((k + 1 : Nat) : Int) := by rw [wrap_i64 (by omega)]; omega
          intro ids w2 hp hf
          refine ⟨HX.nil, HXok.none _ _, _, rfl, ⟨k + 1, by omega, hfe.symm, by rw [← hwk]; rfl, rfl⟩, ?_⟩
          show v.cs.length - (IntKind.i64.wrap ((k : Int) + 1)).toNat < v.cs.length - ((k : Int)).toNat
          rw [hwk]; omega
        · refine br_t (show (cmdV c != 0) = true by simpa using hz) (pure_done fun _ => ?_)
          rw [if_pos hz] at hfe
          rw [hfe]; rfl
      · refine br_f (show decide ((k : Int) < (v.cs.length : Int)) = false from decide_eq_false (by omega)) (pure_done fun _ => ?_)
        rw [← he, List.drop_of_length_le (by omega)]; rfl
    · refine br_t (show ((v.ns.length : Int) != 0) = true by rw [len_ne]; simpa using h3) (pure_done fun _ => ?_)
      rw [val True (.inr (.inr h3))]; rfl
  · refine calls_at (tab_ok _) Try.func19 rfl tRChk (ρ := ⟨[v.k], [], [], [v.cs.length, c1, v.ns.length, c2], [a1, a2]⟩) (ids := []) rfl (Facts.initP rfl oneNil) ?_
    have hE : valE v = 25 := by unfold valE; rw [if_neg k0, if_neg k2, if_neg k1]
    by_cases hn : v.k < 0
    · refine br_t (show decide (v.k < 0) = true from decide_eq_true hn) (pure_done fun _ => ?_)
      rw [hE]; rfl
    · refine br_f (show decide (v.k < 0) = false from decide_eq_false hn) ?_
      refine br_t (show decide (v.k > 2) = true from decide_eq_true (by omega)) (pure_done fun _ => ?_)
      rw [hE]; rfl
def ItI (xs ys : List Int) (vs : Vals) (hx : HX) : Prop := ∃ k : Nat, k ≤ xs.length ∧ xs.take k = ys.take k ∧ vs = ⟨[(k : Int)], [], [], [], []⟩ ∧ hx = HX.nil
theorem ints_at {w : World} {a : Option Addr} {xs : List Int} (h : Ints w a xs) {i : Nat} {x : Int} (hi : xs[i]? = some x) : a.isSome = true ∧ ∀ (N : Nat → Prop), ¬ N ((a.getD ⟨0, 0, none⟩).block) → CellsAt w (.pointer (some (((a.getD ⟨0, 0, none⟩).add (i * 1)).add 0))) [.int .i64 x] N := ints_elt h hi
theorem intsB_any (a : Option Addr) (cap : Nat) (xs : List Int) (a2 : Option Addr) (cap2 : Nat) (ys : List Int) (w : World) (H : Ints w a xs) (H2 : Ints w a2 ys) (hl : xs.length ≤ 140737488355328) : Calls Try.prog 21 #[.slice a xs.length cap, .slice a2 ys.length cap2] w (PureAt w (.bool (decide (xs = ys)))) := by
  refine calls_at (tab_ok _) Try.func21 rfl tInts (ρ := ⟨[], [], [], [xs.length, cap, ys.length, cap2], [a, a2]⟩) (ids := []) rfl (Facts.initP rfl oneNil) ?_
  by_cases hlen : xs.length = ys.length
  · refine br_f (show ((xs.length : Int) != (ys.length : Int)) = false by simp [hlen]) ?_
    refine loop_i (ItI xs ys) (fun vs => xs.length - (vs.i.headD 0).toNat) (fun ids w2 hp hf => ⟨HX.nil, HXok.none _ _, 0, by omega, rfl, rfl, rfl⟩) ?_
    rintro vs hx' hcnt ⟨k, hk1, he, rfl, rfl⟩
    by_cases hk : k < xs.length
    · refine br_t (show decide ((k : Int) < (xs.length : Int)) = true from decide_eq_true (by omega)) ?_
      obtain ⟨x, hx⟩ : ∃ b, xs[k]? = some b := ⟨_, List.getElem?_eq_getElem hk⟩
      obtain ⟨y, hy⟩ : ∃ b, ys[k]? = some b := ⟨_, List.getElem?_eq_getElem (by omega)⟩
      obtain ⟨s1, c1⟩ := ints_at H hx
      obtain ⟨s2, c2⟩ := ints_at H2 hy
      have hst := take_stepV hx hy he
      have hwk : IntKind.i64.wrap ((k : Int) + 1) = ((k + 1 : Nat) : Int) := by rw [wrap_i64 (by omega)]; omega
      refine need_i ⟨s1, (show (0 : Int) ≤ k by omega), (show (k : Int) < xs.length by omega)⟩ ?_
      refine need_i ⟨s2, (show (0 : Int) ≤ k by omega), (show (k : Int) < ys.length by omega)⟩ ?_
      by_cases hxy : x = y
      · have e1 := hst.2 hxy
        have fin : ∀ {es : Vec} {m : Mem} {ρ : Env} {L : Stack}, (∀ ids, es.den ρ ids = ⟨[IntKind.i64.wrap ((k : Int) + 1)], [], [], [], []⟩) → (Tree.again 4 es m).holds ⟨Try.prog, w, fun _ => False, PureAt w (.bool (decide (xs = ys)))⟩ ρ [] HX.nil ((4, fun vs' hx'' => ItI xs ys vs' hx'' ∧ xs.length - (vs'.i.headD 0).toNat < xs.length - ((⟨[(k : Int)], [], [], [], []⟩ : Vals).i.headD 0).toNat) :: L) := by
          intro es m ρ L hes ids w2 hp hf
          refine ⟨HX.nil, HXok.none _ _, _, rfl, ?_⟩
          rw [hes]
          refine ⟨⟨k + 1, by omega, e1, by rw [hwk], rfl⟩, ?_⟩
          show xs.length - (IntKind.i64.wrap ((k : Int) + 1)).toNat < xs.length - ((k : Int)).toNat
          rw [hwk]; omega
        refine par_i ?_ ?_
        · refine ⟨⟨[x], [], [], [], []⟩, fun ids => c1 _ (fun q => q), ⟨rfl, oneNil⟩, ?_⟩
          refine ⟨⟨[y], [], [], [], []⟩, fun ids => c2 _ (fun q => q), ⟨rfl, oneNil⟩, ?_⟩
          exact br_f (show (x != y) = false by simpa using hxy) (fin (fun _ => rfl))
        · refine ⟨⟨[y], [], [], [], []⟩, fun ids => c2 _ (fun q => q), ⟨rfl, oneNil⟩, ?_⟩
          refine ⟨⟨[x], [], [], [], []⟩, fun ids => c1 _ (fun q => q), ⟨rfl, oneNil⟩, ?_⟩
          exact br_f (show (x != y) = false by simpa using hxy) (fin (fun _ => rfl))
      · have hne : ¬ xs = ys := fun e => hxy (by rw [e] at hx; rw [hx] at hy; exact Option.some.inj hy)
        have fin : ∀ {m : Mem} {ρ : Env} {L : Stack} {hx : HX}, (Tree.done (.lf (.bool (.lit false))) m).holds ⟨Try.prog, w, fun _ => False, PureAt w (.bool (decide (xs = ys)))⟩ ρ [] hx L := pure_done fun _ => by rw [decide_eq_false hne]; rfl
        refine par_i ?_ ?_
        · refine ⟨⟨[x], [], [], [], []⟩, fun ids => c1 _ (fun q => q), ⟨rfl, oneNil⟩, ?_⟩
          refine ⟨⟨[y], [], [], [], []⟩, fun ids => c2 _ (fun q => q), ⟨rfl, oneNil⟩, ?_⟩
          exact br_t (show (x != y) = true by simpa using hxy) fin
        · refine ⟨⟨[y], [], [], [], []⟩, fun ids => c2 _ (fun q => q), ⟨rfl, oneNil⟩, ?_⟩
          refine ⟨⟨[x], [], [], [], []⟩, fun ids => c1 _ (fun q => q), ⟨rfl, oneNil⟩, ?_⟩
          exact br_t (show (x != y) = true by simpa using hxy) fin
    · refine br_f (show decide ((k : Int) < (xs.length : Int)) = false from decide_eq_false (by omega)) (pure_done fun _ => ?_)
      have e : xs = ys := by rw [List.take_of_length_le (by omega), List.take_of_length_le (by omega)] at he; exact he
      rw [decide_eq_true e]; rfl
  · refine br_t (show ((xs.length : Int) != (ys.length : Int)) = true by simp only [bne_iff_ne, ne_eq]; omega) (pure_done fun _ => ?_)
    rw [decide_eq_false (fun e => hlen (by rw [e]))]; rfl
open Classical in
theorem info_cmd : (Try.prog.info? 52).map (fun i => (i.zero, i.size, i.bytes)) = some (some (.agg #[.int .i64 0, .int .i64 0, .int .i64 0, .int .i64 0, .int .i64 0, .int .i64 0, .int .i64 0, .int .i64 0]), 8, 64) := by kernel_rfl
theorem info_int1 : (Try.prog.info? 3).map (fun i => (i.zero, i.size, i.bytes)) = some (some (.int .i64 0), 1, 8) := by kernel_rfl
def crow (a : Option Addr) (n c : Nat) (cs : List CmD) : HX := HX.rw 8 52 a n c (ccells cs)
theorem ccells_snoc (cs : List CmD) (c : CmD) : ccells cs ++ c.cells = ccells (cs ++ [c]) := by unfold ccells; rw [List.flatMap_append]; simp
theorem cmd_one (c : CmD) : ∀ v ∈ c.cells, v.oneCell' = true := fun v hv => by
  simp only [CmD.cells, List.mem_cons, List.not_mem_nil, or_false] at hv
  rcases hv with rfl | rfl | rfl | rfl | rfl | rfl | rfl | rfl <;> rfl
def vlX (v : Vl) (a1 a2 : Option Addr) : HX := (HX.cl a1 (ccells v.cs)).and (HX.cl a2 (v.ns.map (Value.int .i64)))
structure VlFit (v : Vl) : Prop where
  n : ∀ n ∈ v.ns, I64 n
  l1 : v.cs.length ≤ 2199023255552
  l2 : v.ns.length ≤ 17592186044416
theorem VlFit.at_ {v : Vl} (h : VlFit v) {a1 a2 : Option Addr} {w : World} (hX : (vlX v a1 a2).X w) : VlAt w v a1 a2 := ⟨hX.1, Ints.of_cells (by have := h.l2; omega) h.n hX.2, h.l1, h.l2⟩
theorem VlAt.X {v : Vl} {a1 a2 : Option Addr} {w : World} (H : VlAt w v a1 a2) : (vlX v a1 a2).X w := ⟨H.c, H.n.cells⟩
theorem VlAt.fit {v : Vl} {a1 a2 : Option Addr} {w : World} (H : VlAt w v a1 a2) : VlFit v := ⟨H.n.fits, H.l1, H.l2⟩
theorem vlX_sep {v : Vl} {a1 a2 : Option Addr} {w : World} (h : (vlX v a1 a2).X w) : ∀ k, (vlX v a1 a2).F k → k < w.heap.size := fun k hk => hk.elim (cl_sep h.1 k) (cl_sep h.2 k)
def VlNew (w : World) (V : Value → Value) (v : Vl) (e : Ending) (w' : World) : Prop := ∃ a1 c1 a2 c2, e = .returned (V (vlV v a1 c1 a2 c2)) ∧ (vlX v a1 a2).X w' ∧ (∀ k, (vlX v a1 a2).F k → w.heap.size ≤ k) ∧ Below w.heap.size w w'
section
variable {C : Cfg} {ρ : Env} {pre : List Nat} {hx : HX} {L : Stack} {m m' : Mem} {args : List SV} {r : SV} {t : Tree}
theorem node_vl {f : Nat} {V : Value → Value} {v : Vl} (AS : List Nat → Array Value) (vs : Option Addr → Nat → Option Addr → Nat → Vals) (hargs : ∀ ids, (args.map (SV.den ρ ids)).toArray = AS ids) (hcall : ∀ ids w, pre <+: ids → Facts C m ρ ids hx w → Calls C.P f (AS ids) w (VlNew w V v))
    (hr : ∀ a1 c1 a2 c2 ids, r.den (ρ.add (vs a1 c1 a2 c2)) ids = V (vlV v a1 c1 a2 c2)) (hhp : m'.hp = m.hp) (hfit : hpFits m.c m.hp.length m.hp = true) (hc : ∀ a1 c1 a2 c2, (ρ.add (vs a1 c1 a2 c2)).cnt = m'.c) (h1 : ∀ a1 c1 a2 c2 v, v ∈ (vs a1 c1 a2 c2).v → v.oneCell' = true)
    (h : ∀ a1 c1 a2 c2, (∀ k, (vlX v a1 a2).F k → C.W.heap.size ≤ k ∧ ¬ hx.F k) → t.holds C (ρ.add (vs a1 c1 a2 c2)) pre (hx.and (vlX v a1 a2)) L) : (Tree.call f args m r m' t).holds C ρ pre hx L := by
  refine node_out AS (fun u hy => ∃ a1 c1 a2 c2, u = vs a1 c1 a2 c2 ∧ hy = vlX v a1 a2) hargs (fun ids w hp hf => ?_) hhp hfit ?_ ?_
  · refine (hcall ids w hp hf).mono ?_
    rintro e w' ⟨a1, c1, a2, c2, rfl, hX, hge, hb⟩
    exact ⟨_, _, ⟨a1, c1, a2, c2, rfl, rfl⟩, by rw [hr], hX, fun k hk => ⟨hge k hk, vlX_sep hX k hk⟩, hb⟩
  · rintro u hy ⟨a1, c1, a2, c2, rfl, rfl⟩
    exact ⟨hc _ _ _ _, h1 _ _ _ _⟩
  · rintro u hy ⟨a1, c1, a2, c2, rfl, rfl⟩ hfr
    exact h a1 c1 a2 c2 hfr
end
theorem ccells_one (cs : List CmD) : ∀ v ∈ ccells cs, v.oneCell' = true := fun v hv => by
  obtain ⟨c, _, h⟩ := List.mem_flatMap.1 hv
  exact cmd_one c v h
theorem rw_fresh {b : Option Addr} {n d sz e : Nat} {cs : List Value} {w : World} {N : Nat} (hx : (HX.rw sz e b n d cs).X w) (hk : ∀ k, d ≠ 0 → abk b = some k → N ≤ k) : ∀ k, (HX.cl b cs).F k → N ≤ k := by
  rintro k ⟨hne, rfl⟩
  have hc : d ≠ 0 := fun q => by
    rcases hx with ⟨_, _, h3⟩ | ⟨h3, _⟩
    · exact hne h3
    · exact h3 q
  obtain ⟨g, _, rfl, _⟩ := rw_open hx hc
  exact hk g hc rfl
set_option maxRecDepth 100000 in
theorem tCpVal : (runF ⟨tt, fns, {}⟩ (Try.f13.body.getD .skip) Try.f13.results.toList (entry Try.f13.ntmps [.agg [.int .i64 (.var 0), .sl 0 (.var 0) (.var 1), .sl 1 (.var 2) (.var 3)]] [] ⟨1, 0, 0, 4, 2⟩)) =
  (.gen (.call ⟨(.builtin .append), #[(.tmp 8), (.tmp 10)], #[35, 35]⟩) 35 [(8, (.lf .nilsl)), (10, (.lf (tSl 0 0 1)))] ⟨[(37, [(tVi 0), (tSl 0 0 1), (tSl 1 2 3)]), (37, [(tLi 0), .nilsl, .nilsl]), (37, [(tVi 0), .nilsl, .nilsl])], ⟨1, 0, 0, 4, 2⟩⟩ (.some (.lf (tSl 2 4 5))) ⟨[(37, [(tVi 0), (tSl 0 0 1), (tSl 1 2 3)]), (37, [(tLi 0), .nilsl, .nilsl]), (37, [(tVi 0), .nilsl, .nilsl])], ⟨1, 0, 0, 6, 3⟩⟩ (.gen (.call ⟨(.builtin .append), #[(.tmp 14), (.tmp 16)], #[22, 22]⟩) 22 [(14, (.lf .nilsl)), (16, (.lf (tSl 1 2 3)))] ⟨[(37, [(tVi 0), (tSl 0 0 1), (tSl 1 2 3)]), (37, [(tLi 0), .nilsl, .nilsl]), (37, [(tVi 0), (tSl 2 4 5), .nilsl])], ⟨1, 0, 0, 6, 3⟩⟩ (.some (.lf (tSl 3 6 7))) ⟨[(37, [(tVi 0), (tSl 0 0 1), (tSl 1 2 3)]), (37, [(tLi 0), .nilsl, .nilsl]), (37, [(tVi 0), (tSl 2 4 5), .nilsl])], ⟨1, 0, 0, 8, 4⟩⟩ (.done (.agg [(tVi 0), (tSl 2 4 5), (tSl 3 6 7)]) ⟨[(37, [(tVi 0), (tSl 0 0 1), (tSl 1 2 3)]), (37, [(tVi 0), (tSl 2 4 5), (tSl 3 6 7)]), (37, [(tVi 0), (tSl 2 4 5), (tSl 3 6 7)])], ⟨1, 0, 0, 8, 4⟩⟩))) := by kernel_rfl
theorem cpvl_any (v : Vl) (a1 : Option Addr) (c1 : Nat) (a2 : Option Addr) (c2 : Nat) (w : World) (H : VlAt w v a1 a2) : Calls Try.prog 13 #[vlV v a1 c1 a2 c2] w (VlNew w id v) := by
  have l1 := H.l1
  have l2 := H.l2
  refine calls_at (tab_ok _) Try.func13 rfl tCpVal (ρ := ⟨[v.k], [], [], [v.cs.length, c1, v.ns.length, c2], [a1, a2]⟩) (ids := []) (hx := vlX v a1 a2) rfl (Facts.initq rfl oneNil H.X (vlX_sep H.X)) ?_
  refine node_appends (xs := []) rfl Try.underlying35 info_cmd rfl (by decide) none 0 0 (fun _ => a1) v.cs.length c1 (ccells v.cs) (ccells_len _) (fun ids w _ _ => HX.rw_nil _ _ _ w) (fun ids w2 hp hf => hf.x.1) (ccells_one _) (fun w h => ⟨h, fun _ q => q⟩) (fun k h => absurd rfl h) (fun k h => absurd rfl h) (fun k h => absurd rfl h) (by unfold maxLen; omega) (by omega) (by intros; kernel_rfl) (by intros; kernel_rfl) (by intros; kernel_rfl) (by intros; kernel_rfl) (by intros; kernel_rfl) (by intros; kernel_rfl) ?_
  intro b1 d1 _ hd1 hw1
  refine node_appends (xs := []) rfl Try.underlying22 info_int1 rfl (by decide) none 0 0 (fun _ => a2) v.ns.length c2 (v.ns.map (Value.int .i64)) (by rw [List.length_map]; omega) (fun ids w _ _ => HX.rw_nil _ _ _ w) (fun ids w2 hp hf => hf.x.1.2) (fun x hx => by obtain ⟨n, _, rfl⟩ := List.mem_map.1 hx; rfl) (fun w h => ⟨h, fun _ q => q⟩) (fun k h => absurd rfl h) (fun k h => absurd rfl h) (fun k h => absurd rfl h) (by unfold maxLen; omega) (by omega) (by intros; kernel_rfl) (by intros; kernel_rfl) (by intros; kernel_rfl) (by intros; kernel_rfl) (by intros; kernel_rfl) (by intros; kernel_rfl) ?_
  intro b2 d2 _ hd2 hw2 ids w2 hp hf
  have e1 := hf.x.1.2
  have e2 := hf.x.2
  rw [List.nil_append] at e1 e2
  refine ⟨b1, d1, b2, d2, ?_, ⟨rw_cells e1, rw_cells e2⟩, ?_, hf.chg.below⟩
  · show Ending.returned (.agg #[.int .i64 v.k, .slice b1 (0 + v.cs.length) d1, .slice b2 (0 + v.ns.length) d2]) = _
    rw [Nat.zero_add, Nat.zero_add]; rfl
  · intro k hk
    rcases hk with hk | hk
    · exact rw_fresh e1 (fun k h1 h2 => (hw1 k h1 h2).elim (fun q => absurd rfl q.1) (fun q => q.1)) k hk
    · exact rw_fresh e2 (fun k h1 h2 => (hw2 k h1 h2).elim (fun q => absurd rfl q.1) (fun q => q.1)) k hk
def cmDat (c : CmD) : Dat := .parts [.int .i64 c.sess, .int .i64 c.seq, .int .i64 c.ack, .parts [.int .i64 c.op.kind, .int .i64 c.op.reg, .int .i64 c.op.tg, .int .i64 c.op.re, .int .i64 c.op.im]]
def CmFit (c : CmD) : Prop := ∀ i ∈ c.is, I64 i
theorem opn_int {w : World} {d : Dat} (h : d.In Try.prog w 3) : ∃ k : Int, d = .int .i64 k ∧ I64 k := by
  obtain ⟨k, rfl, hk⟩ := in_int Try.underlying3 h
  exact ⟨k, rfl, I64.of_wf hk⟩
theorem opn_cmd {w : World} {d : Dat} (h : d.In Try.prog w 52) : ∃ c : CmD, d = cmDat c ∧ CmFit c := by
  obtain ⟨ds, rfl, g⟩ := in_struct Try.underlying52 h
  obtain ⟨d0, r0, rfl, h0, g0⟩ := inEach_cons g
  obtain ⟨d1, r1, rfl, h1, g1⟩ := inEach_cons g0
  obtain ⟨d2, r2, rfl, h2, g2⟩ := inEach_cons g1
  obtain ⟨d3, r3, rfl, h3, g3⟩ := inEach_cons g2
  obtain rfl := inEach_nil g3
  obtain ⟨es, rfl, f⟩ := in_struct Try.underlying50 h3
  obtain ⟨e0, s0, rfl, k0, f1⟩ := inEach_cons f
  obtain ⟨e1, s1, rfl, k1, f2⟩ := inEach_cons f1
  obtain ⟨e2, s2, rfl, k2, f3⟩ := inEach_cons f2
  obtain ⟨e3, s3, rfl, k3, f4⟩ := inEach_cons f3
  obtain ⟨e4, s4, rfl, k4, f5⟩ := inEach_cons f4
  obtain rfl := inEach_nil f5
  obtain ⟨x0, rfl, p0⟩ := opn_int h0
  obtain ⟨x1, rfl, p1⟩ := opn_int h1
  obtain ⟨x2, rfl, p2⟩ := opn_int h2
  obtain ⟨y0, rfl, q0⟩ := opn_int k0
  obtain ⟨y1, rfl, q1⟩ := opn_int k1
  obtain ⟨y2, rfl, q2⟩ := opn_int k2
  obtain ⟨y3, rfl, q3⟩ := opn_int k3
  obtain ⟨y4, rfl, q4⟩ := opn_int k4
  refine ⟨⟨x0, x1, x2, ⟨y0, y1, y2, y3, y4⟩⟩, rfl, fun i hi => ?_⟩
  simp only [CmD.is, List.mem_cons, List.not_mem_nil, or_false] at hi
  rcases hi with rfl | rfl | rfl | rfl | rfl | rfl | rfl | rfl <;> assumption
theorem dat_cells : ∀ cs : List CmD, Dat.cellsAll (cs.map cmDat) = ccells cs
  | [] => rfl
  | c :: r => by
    show Dat.cellsAll (cmDat c :: r.map cmDat) = c.cells ++ ccells r
    rw [← dat_cells r]; rfl
theorem dat_ints : ∀ ns : List Int, Dat.cellsAll (ns.map fun n => Dat.int .i64 n) = ns.map (Value.int .i64)
  | [] => rfl
  | n :: r => by rw [List.map_cons, List.map_cons, ← dat_ints r]; rfl
theorem bytes_cmd : Try.prog.bytesOf 52 = 64 := by kernel_rfl
theorem bytes_int : Try.prog.bytesOf 3 = 8 := by kernel_rfl
theorem reach_is : reachBytes ≤ 140737488355328 := by unfold reachBytes; decide
theorem opn_vl {w : World} {d : Dat} (h : d.In Try.prog w 37) : ∃ (v : Vl) (a1 : Option Addr) (c1 : Nat) (a2 : Option Addr) (c2 : Nat), d.cells = [.int .i64 v.k, .slice a1 v.cs.length c1, .slice a2 v.ns.length c2] ∧ VlAt w v a1 a2 ∧ I64 v.k ∧ ∀ c ∈ v.cs, CmFit c := by
  obtain ⟨ds, rfl, g⟩ := in_struct Try.underlying37 h
  obtain ⟨d0, r0, rfl, h0, g0⟩ := inEach_cons g
  obtain ⟨d1, r1, rfl, h1, g1⟩ := inEach_cons g0
  obtain ⟨d2, r2, rfl, h2, g2⟩ := inEach_cons g1
  obtain rfl := inEach_nil g2
  obtain ⟨k, rfl, hk⟩ := opn_int h0
  obtain ⟨a1, c1, ds1, rfl, l1, m1, b1, C1, I1⟩ := in_slice Try.underlying35 h1
  obtain ⟨a2, c2, ds2, rfl, l2, m2, b2, C2, I2⟩ := in_slice Try.underlying22 h2
  obtain ⟨cs, rfl, hcs⟩ := list_map_of cmDat CmFit ds1 (fun d hd => opn_cmd (I1 d hd))
  obtain ⟨ns, rfl, hns⟩ := list_map_of (fun n => Dat.int .i64 n) I64 ds2 (fun d hd => opn_int (I2 d hd))
  have hr := reach_is
  rw [bytes_cmd, List.length_map] at b1
  rw [bytes_int, List.length_map] at b2
  rw [dat_cells] at C1
  rw [dat_ints] at C2
  have hc1 : cs.length ≤ 2199023255552 := by omega
  have hn1 : ns.length ≤ 17592186044416 := by omega
  refine ⟨⟨k, cs, ns⟩, a1, c1, a2, c2, ?_, ⟨C1, Ints.of_cells (Nat.le_trans hn1 (by decide)) hns C2, hc1, hn1⟩, hk, hcs⟩
  show [Value.int .i64 k] ++ ([Value.slice a1 (cs.map cmDat).length c1] ++ ([Value.slice a2 (ns.map _).length c2] ++ [])) = _
  rw [List.length_map, List.length_map]; rfl
def ClNew (w : World) (n : Nat) (xs : List Value) (e : Ending) (w' : World) : Prop := ∃ a' c', e = .returned (.slice a' n c') ∧ (HX.cl a' xs).X w' ∧ (∀ k, (HX.cl a' xs).F k → w.heap.size ≤ k) ∧ Below w.heap.size w w'
theorem none_nil {w : World} {xs : List Value} (h : Cells w none xs) : xs = [] := by
  cases xs with
  | nil => rfl
  | cons x r => exact absurd (h (by simp)).1 (by simp [PlainA])
set_option maxRecDepth 100000 in
theorem tSCloneN : (runF ⟨tt, fns, { }⟩ (Try.f38.body.getD .skip) Try.f38.results.toList (entry Try.f38.ntmps [.lf (.sl 0 (.var 0) (.var 1))] [] ⟨0, 0, 0, 2, 1⟩)) =
  (.br (.anone 0) (.done (.lf .nilsl) ⟨[], ⟨0, 0, 0, 2, 1⟩⟩) (.gen (.call ⟨(.builtin .append), #[(.tmp 5), (.tmp 6)], #[22, 22]⟩) 22 [(5, (.lf (.nsl 0 0 0 0))), (6, (.lf (tSl 0 0 1)))] ⟨[(3, [])], ⟨0, 0, 0, 2, 1⟩⟩ (.some (.lf (tSl 1 2 3))) ⟨[(3, [])], ⟨0, 0, 0, 4, 2⟩⟩ (.done (.lf (tSl 1 2 3)) ⟨[(3, [])], ⟨0, 0, 0, 4, 2⟩⟩))) := by kernel_rfl
theorem scloneN_any (a : Option Addr) (cap : Nat) (ns : List Int) (w : World) (H : Cells w a (ns.map (Value.int .i64))) (hl : ns.length ≤ 17592186044416) : Calls Try.prog 38 #[.slice a ns.length cap] w (ClNew w ns.length (ns.map (Value.int .i64))) := by
  refine calls_at (tab_ok _) Try.func38 rfl tSCloneN (ρ := ⟨[], [], [], [ns.length, cap], [a]⟩) (ids := []) (hx := HX.cl a (ns.map (Value.int .i64))) rfl (Facts.initq rfl oneNil H (cl_sep H)) ?_
  by_cases h : a.isNone = true
  · refine br_t h ?_
    obtain rfl : a = none := by simpa using h
    have e := none_nil H
    have e2 : ns = [] := by simpa using e
    subst e2
    intro ids w2 hp hf
    exact ⟨none, 0, rfl, fun h => by simp at h, fun k hk => absurd rfl hk.1, hf.chg.below⟩
  · refine br_f (show a.isNone = false by cases a with | none => exact absurd rfl h | some x => rfl) ?_
    refine node_clones (sz := 1) (xs := ns.map (Value.int .i64)) rfl Try.underlying22 info_int1 rfl (by decide) 0 rfl (fun _ => a) ns.length cap (by rw [List.length_map, Nat.mul_one]) (fun ids w2 hp hf => hf.x) (fun x hx => by obtain ⟨n, _, rfl⟩ := List.mem_map.1 hx; rfl) (by unfold maxLen; omega) (by omega) (fun _ => rfl) (fun _ => rfl) (fun _ _ _ => rfl) rfl rfl (fun _ _ => rfl) ?_
    intro a' c' hfr ids w2 hp hf
    exact ⟨a', c', rfl, rw_cells hf.x.2, rw_fresh hf.x.2 (fun k h1 h2 => (hfr k h1 h2).1), hf.chg.below⟩
section
variable {C : Cfg} {ρ : Env} {pre : List Nat} {hx : HX} {L : Stack} {m m' : Mem} {args : List SV} {r : SV} {t : Tree}
theorem node_cl {f : Nat} {n : Nat} {xs : List Value} (AS : List Nat → Array Value) (vs : Option Addr → Nat → Vals) (hargs : ∀ ids, (args.map (SV.den ρ ids)).toArray = AS ids) (hcall : ∀ ids w, pre <+: ids → Facts C m ρ ids hx w → Calls C.P f (AS ids) w (ClNew w n xs))
    (hr : ∀ a' c' ids, r.den (ρ.add (vs a' c')) ids = .slice a' n c') (hhp : m'.hp = m.hp) (hfit : hpFits m.c m.hp.length m.hp = true) (hc : ∀ a' c', (ρ.add (vs a' c')).cnt = m'.c) (h1 : ∀ a' c' v, v ∈ (vs a' c').v → v.oneCell' = true)
    (h : ∀ a' c', (∀ k, (HX.cl a' xs).F k → C.W.heap.size ≤ k ∧ ¬ hx.F k) → t.holds C (ρ.add (vs a' c')) pre (hx.and (HX.cl a' xs)) L) : (Tree.call f args m r m' t).holds C ρ pre hx L := by
  refine node_out AS (fun u hy => ∃ a' c', u = vs a' c' ∧ hy = HX.cl a' xs) hargs (fun ids w hp hf => ?_) hhp hfit ?_ ?_
  · refine (hcall ids w hp hf).mono ?_
    rintro e w' ⟨a', c', rfl, hX, hge, hb⟩
    exact ⟨_, _, ⟨a', c', rfl, rfl⟩, by rw [hr], hX, fun k hk => ⟨hge k hk, cl_sep hX k hk⟩, hb⟩
  · rintro u hy ⟨a', c', rfl, rfl⟩
    exact ⟨hc _ _, h1 _ _⟩
  · rintro u hy ⟨a', c', rfl, rfl⟩ hfr
    exact h a' c' hfr
end
end Go.Proofs.Ytfjiolgdcphjhaa

namespace Go.Proofs.Ytfjiolgdcphjhaa
open Go.ChangeShapes Go.WideShapes Go.ChangeAt Go.RowKit Go.Syn Go.Eng
set_option linter.unusedVariables false
set_option linter.unusedSimpArgs false
set_option maxRecDepth 100000
structure Im where
  ep : Int
  mem : List Int
  sl : Int
  regs : List Int
  tb : List SsD
def rg (r : List Int) (i : Nat) : Int := r.getD i 0
def rgs (r : List Int) : List Int := [rg r 0, rg r 1, rg r 2, rg r 3, rg r 4, rg r 5, rg r 6, rg r 7, rg r 8, rg r 9, rg r 10, rg r 11, rg r 12, rg r 13, rg r 14, rg r 15]
theorem rgs_of {r : List Int} (h : r.length = 16) : rgs r = r := by
  obtain ⟨a0, a1, a2, a3, a4, a5, a6, a7, a8, a9, a10, a11, a12, a13, a14, a15, rfl⟩ := list16 r h
  rfl
def imC (I : Im) (a1 : Option Addr) (c1 : Nat) (a2 : Option Addr) (c2 : Nat) : List Value :=
  [.int .i64 I.ep, .slice a1 I.mem.length c1, .int .i64 I.sl, .int .i64 (rg I.regs 0), .int .i64 (rg I.regs 1), .int .i64 (rg I.regs 2), .int .i64 (rg I.regs 3), .int .i64 (rg I.regs 4), .int .i64 (rg I.regs 5), .int .i64 (rg I.regs 6), .int .i64 (rg I.regs 7), .int .i64 (rg I.regs 8), .int .i64 (rg I.regs 9), .int .i64 (rg I.regs 10), .int .i64 (rg I.regs 11), .int .i64 (rg I.regs 12), .int .i64 (rg I.regs 13), .int .i64 (rg I.regs 14), .int .i64 (rg I.regs 15), .slice a2 I.tb.length c2]
def imV (I : Im) (a1 : Option Addr) (c1 : Nat) (a2 : Option Addr) (c2 : Nat) : Value := .agg (imC I a1 c1 a2 c2).toArray
def imI (I : Im) : List Int := [I.ep, I.sl, rg I.regs 0, rg I.regs 1, rg I.regs 2, rg I.regs 3, rg I.regs 4, rg I.regs 5, rg I.regs 6, rg I.regs 7, rg I.regs 8, rg I.regs 9, rg I.regs 10, rg I.regs 11, rg I.regs 12, rg I.regs 13, rg I.regs 14, rg I.regs 15]
def im0 : Im := ⟨0, [], 0, [0, 0, 0, 0, 0, 0, 0, 0, 0, 0, 0, 0, 0, 0, 0, 0], []⟩
structure ImAt (w : World) (I : Im) (a1 a2 : Option Addr) (es : List SE) : Prop where
  tb : es.map SE.s = I.tb
  mem : Ints w a1 I.mem
  tab : TbAt w a2 es
  reg : I.regs.length = 16
theorem ImAt.keep {w w' : World} {I : Im} {a1 a2 : Option Addr} {es : List SE} (h : ImAt w I a1 a2 es) (hb : ∀ k, k < w.heap.size → w'.heap[k]? = w.heap[k]?) : ImAt w' I a1 a2 es :=
  ⟨h.tb, Ints.loc h.mem (fun hne => hb _ (by have := cl_sep h.mem.cells (blk a1) ⟨by simpa using hne, rfl⟩; exact this)), h.tab.keep hb, h.reg⟩
theorem ImAt.len {w : World} {I : Im} {a1 a2 : Option Addr} {es : List SE} (h : ImAt w I a1 a2 es) : es.length = I.tb.length := by rw [← h.tb, List.length_map]
def validI (I : Im) : Bool := decide (0 ≤ I.ep) && decide (I.ep ≤ 1099511627776) && decide (0 ≤ I.sl) && decide (I.sl ≤ 1099511627776) && decide (checkV I.mem = 0) && validL I.regs && validT I.tb
structure VI (I : Im) : Prop where
  ep0 : 0 ≤ I.ep
  ep1 : I.ep ≤ 1099511627776
  sl0 : 0 ≤ I.sl
  sl1 : I.sl ≤ 1099511627776
  mem : setOkB I.mem = true
  regs : validL I.regs = true
  tb : VT I.tb
theorem check_zero {xs : List Int} : checkV xs = 0 ↔ setOkB xs = true := by
  unfold checkV; split <;> simp_all
theorem validI_iff (I : Im) : validI I = true ↔ VI I := by
  unfold validI
  simp only [Bool.and_eq_true, decide_eq_true_eq, check_zero, validT_iff]
  exact ⟨fun ⟨⟨⟨⟨⟨⟨a, b⟩, c⟩, d⟩, e⟩, f⟩, g⟩ => ⟨a, b, c, d, e, f, g⟩, fun h => ⟨⟨⟨⟨⟨⟨h.ep0, h.ep1⟩, h.sl0⟩, h.sl1⟩, h.mem⟩, h.regs⟩, h.tb⟩⟩
structure AnD where
  sess : Int
  seq : Int
  k : Int
  re : Int
  im : Int
def AnD.cells (a : AnD) : List Value := [.int .i64 a.sess, .int .i64 a.seq, .int .i64 a.k, .int .i64 a.re, .int .i64 a.im]
def ancells (l : List AnD) : List Value := l.flatMap AnD.cells
theorem an_len (a : AnD) : a.cells.length = 5 := rfl
theorem ancells_snoc (l : List AnD) (a : AnD) : ancells l ++ a.cells = ancells (l ++ [a]) := by unfold ancells; rw [List.flatMap_append]; simp
theorem an_one (a : AnD) : ∀ v ∈ a.cells, v.oneCell' = true := fun v hv => by
  unfold AnD.cells at hv
  simp only [List.mem_cons, List.not_mem_nil, or_false] at hv
  rcases hv with rfl | rfl | rfl | rfl | rfl <;> rfl
theorem info_ans : (Try.prog.info? 56).map (fun i => (i.zero, i.size, i.bytes)) = some (some (.agg #[.int .i64 0, .int .i64 0, .int .i64 0, .int .i64 0, .int .i64 0]), 5, 40) := by kernel_rfl
structure RunR where
  i : Im
  k : Int
  re : Int
  im : Int
def runV (I : Im) (c : CmD) : RunR :=
  if (askV I.tb c.sess c.seq c.ack).d then ⟨⟨I.ep, I.mem, I.sl, I.regs, (askV I.tb c.sess c.seq c.ack).t⟩, (askV I.tb c.sess c.seq c.ack).k, (askV I.tb c.sess c.seq c.ack).re, (askV I.tb c.sess c.seq c.ack).im⟩
  else ⟨⟨I.ep, I.mem, I.sl, (applyM I.regs c.op).1, keepV (askV I.tb c.sess c.seq c.ack).t c.sess c.seq (applyM I.regs c.op).2.1 (applyM I.regs c.op).2.2.1 (applyM I.regs c.op).2.2.2⟩, (applyM I.regs c.op).2.1, (applyM I.regs c.op).2.2.1, (applyM I.regs c.op).2.2.2⟩
theorem runV_mem (I : Im) (c : CmD) : (runV I c).i.mem = I.mem ∧ (runV I c).i.ep = I.ep ∧ (runV I c).i.sl = I.sl := by unfold runV; split <;> exact ⟨rfl, rfl, rfl⟩
theorem runV_len {I : Im} (c : CmD) (h : I.regs.length = 16) : (runV I c).i.regs.length = 16 := by
  unfold runV; split
  · exact h
  · exact (applyM_len _ _).trans h
def stepV (p : Im × List AnD) (c : CmD) : Im × List AnD := ((runV p.1 c).i, p.2 ++ [⟨c.sess, c.seq, (runV p.1 c).k, (runV p.1 c).re, (runV p.1 c).im⟩])
def runAll (I : Im) (cs : List CmD) : Im × List AnD := cs.foldl stepV (I, [])
theorem runAll_step (I : Im) {cs : List CmD} {k : Nat} {c : CmD} (h : cs[k]? = some c) : runAll I (cs.take (k + 1)) = stepV (runAll I (cs.take k)) c := by
  unfold runAll
  rw [List.take_add_one, h, List.foldl_append]; rfl
theorem runAll_keep (I : Im) (cs : List CmD) : ∀ p : Im × List AnD, (cs.foldl stepV p).1.mem = p.1.mem ∧ (cs.foldl stepV p).1.ep = p.1.ep ∧ (cs.foldl stepV p).1.sl = p.1.sl ∧ (cs.foldl stepV p).2.length = p.2.length + cs.length := by
  induction cs with
  | nil => intro p; exact ⟨rfl, rfl, rfl, rfl⟩
  | cons c r ih =>
    intro p
    obtain ⟨h1, h2, h3, h4⟩ := ih (stepV p c)
    obtain ⟨g1, g2, g3⟩ := runV_mem p.1 c
    refine ⟨h1.trans g1, h2.trans g2, h3.trans g3, ?_⟩
    rw [List.foldl_cons, h4]
    simp only [stepV, List.length_append, List.length_cons, List.length_nil]; omega
theorem opB_of {c : CmD} (h : cmdV c = 0) : 1 ≤ c.sess ∧ c.sess ≤ 1073741824 ∧ 1 ≤ c.seq ∧ c.seq ≤ 1099511627776 ∧ 0 ≤ c.ack ∧ c.ack < c.seq ∧ opB c.op = true := by
  unfold cmdV at h
  split at h
  · cases h
  · split at h
    · exact ⟨by omega, by omega, by omega, by omega, by omega, by omega, by assumption⟩
    · cases h
theorem applyM_valid {xs : List Int} (hx : xs.length = 16) (h : validL xs = true) (o : OpD) : validL (applyM xs o).1 = true := by
  unfold applyM
  split
  · rename_i hc
    simp only [Bool.and_eq_true] at hc
    obtain ⟨_, r12, _⟩ := (opB_iff _).1 hc.2
    split
    · exact h
    · split
      · rename_i hf
        refine valid_put ?_ _ hf
        split
        · exact valid_put h _ (valid_reg h _ (by omega))
        · exact h
      · exact h
  · exact h
theorem apply_kind {xs : List Int} {o : OpD} (h : validL xs = true) (h2 : opB o = true) : 1 ≤ (applyM xs o).2.1 ∧ (applyM xs o).2.1 ≤ 3 := by
  unfold applyM
  rw [if_pos (by rw [h, h2]; rfl)]
  split
  · exact ⟨by show (1 : Int) ≤ _; simp, by simp⟩
  · split
    · exact ⟨by show (1 : Int) ≤ _; simp, by simp⟩
    · exact ⟨by show (1 : Int) ≤ _; simp, by simp⟩
theorem VI.run {I : Im} (h : VI I) (hr : I.regs.length = 16) {c : CmD} (hc : cmdV c = 0) : VI (runV I c).i := by
  obtain ⟨c1, c2, c3, c4, c5, c6, c7⟩ := opB_of hc
  have ht := h.tb.ask (sess := c.sess) (seq := c.seq) (ack := c.ack) c1 c2 (by omega)
  unfold runV
  split
  · exact ⟨h.ep0, h.ep1, h.sl0, h.sl1, h.mem, h.regs, ht⟩
  · obtain ⟨k1, k2⟩ := apply_kind h.regs c7
    exact ⟨h.ep0, h.ep1, h.sl0, h.sl1, h.mem, applyM_valid hr h.regs _, ht.keep c4 k1 k2⟩
theorem firstE_all : ∀ {cs : List CmD}, firstE cs = 0 → ∀ c ∈ cs, cmdV c = 0
  | [], _, c, hc => by cases hc
  | d :: r, h, c, hc => by
    unfold firstE at h
    split at h
    · exact absurd h (by assumption)
    · rename_i hd
      rcases List.mem_cons.1 hc with rfl | hc
      · exact Classical.byContradiction hd
      · exact firstE_all h c hc
theorem VI.all {I : Im} (h : VI I) (hr : I.regs.length = 16) {cs : List CmD} (hc : ∀ c ∈ cs, cmdV c = 0) : ∀ k, VI (runAll I (cs.take k)).1 ∧ (runAll I (cs.take k)).1.regs.length = 16 := fun k => by
  induction k with
  | zero => exact ⟨h, hr⟩
  | succ k ih =>
    rcases Nat.lt_or_ge k cs.length with q | q
    · have e := List.getElem?_eq_getElem q
      rw [runAll_step I e]
      exact ⟨ih.1.run ih.2 (hc _ (List.mem_of_getElem? e)), runV_len _ ih.2⟩
    · rw [List.take_of_length_le (by omega)]; rw [List.take_of_length_le (by omega)] at ih; exact ih
structure ExR where
  i : Im
  an : List AnD
  e : Int
def goI (I : Im) (slot : Int) (v : Vl) : Im := if v.k = 2 then ⟨I.ep + 1, v.ns, slot, I.regs, I.tb⟩ else ⟨I.ep, I.mem, slot, I.regs, I.tb⟩
def execV (I : Im) (slot : Int) (v : Vl) : ExR :=
  if validI I = false then ⟨im0, [], 44⟩ else
  if slot ≠ I.sl + 1 ∨ 1099511627776 < slot ∨ (v.k = 2 ∧ 1099511627776 ≤ I.ep) then ⟨im0, [], 61⟩ else
  if valE v ≠ 0 then ⟨im0, [], valE v⟩ else ⟨(runAll (goI I slot v) v.cs).1, (runAll (goI I slot v) v.cs).2, 0⟩
end Go.Proofs.Ytfjiolgdcphjhaa

namespace Go.Proofs.Ytfjiolgdcphjhaa
open Go.ChangeShapes Go.WideShapes Go.ChangeAt Go.RowKit Go.Syn Go.Eng
set_option linter.unusedVariables false
set_option linter.unusedSimpArgs false
set_option maxRecDepth 100000
def imX (I : Im) (a1 a2 : Option Addr) (c2 : Nat) (es : List SE) : HX := (HX.cl a1 (I.mem.map (Value.int .i64))).and (tabR a2 c2 es)
def ImNew (w : World) (V : Value → Value) (I : Im) (e : Ending) (w' : World) : Prop := ∃ a1 c1 a2 c2 es, es.map SE.s = I.tb ∧ e = .returned (V (imV I a1 c1 a2 c2)) ∧ Dj a2 c2 es ∧ (∀ q, (tabR a2 c2 es).F q → ¬ (HX.cl a1 (I.mem.map (Value.int .i64))).F q) ∧ (imX I a1 a2 c2 es).X w' ∧ (∀ k, (imX I a1 a2 c2 es).F k → w.heap.size ≤ k) ∧ Below w.heap.size w w'
theorem imX_lt {I : Im} {a1 a2 : Option Addr} {c2 : Nat} {es : List SE} {w : World} (h : (imX I a1 a2 c2 es).X w) : ∀ k, (imX I a1 a2 c2 es).F k → k < w.heap.size := fun k hk => hk.elim (cl_sep h.1 k) (tabR_lt h.2 k)
structure ImFit (I : Im) : Prop where
  mem : ∀ x ∈ I.mem, I64 x
  len : I.mem.length ≤ 17592186044416
  reg : I.regs.length = 16
theorem ImFit.at_ {I : Im} (h : ImFit I) {a1 a2 : Option Addr} {c2 : Nat} {es : List SE} {w : World} (he : es.map SE.s = I.tb) (hX : (imX I a1 a2 c2 es).X w) : ImAt w I a1 a2 es :=
  ⟨he, Ints.of_cells (by have := h.len; omega) h.mem hX.1, tabR_at hX.2, h.reg⟩
theorem cl_nil (w : World) (a : Option Addr) : (HX.cl a []).X w := fun h => absurd h (Nat.lt_irrefl 0)
section
variable {C : Cfg} {ρ : Env} {pre : List Nat} {hx : HX} {L : Stack} {m m' : Mem} {args : List SV} {r : SV} {t : Tree}
theorem node_im {f : Nat} {V : Value → Value} {I : Im} (AS : List Nat → Array Value) (vs : Option Addr → Nat → Option Addr → Nat → Vals) (hargs : ∀ ids, (args.map (SV.den ρ ids)).toArray = AS ids) (hcall : ∀ ids w, pre <+: ids → Facts C m ρ ids hx w → Calls C.P f (AS ids) w (ImNew w V I))
    (hr : ∀ a1 c1 a2 c2 ids, r.den (ρ.add (vs a1 c1 a2 c2)) ids = V (imV I a1 c1 a2 c2)) (hhp : m'.hp = m.hp) (hfit : hpFits m.c m.hp.length m.hp = true) (hc : ∀ a1 c1 a2 c2, (ρ.add (vs a1 c1 a2 c2)).cnt = m'.c) (h1 : ∀ a1 c1 a2 c2 v, v ∈ (vs a1 c1 a2 c2).v → v.oneCell' = true)
    (h : ∀ a1 c1 a2 c2 es, es.map SE.s = I.tb → Dj a2 c2 es → Sm a2 es → (∀ q, (tabR a2 c2 es).F q → ¬ (HX.cl a1 (I.mem.map (Value.int .i64))).F q) → (∀ k, (imX I a1 a2 c2 es).F k → C.W.heap.size ≤ k ∧ ¬ hx.F k) → t.holds C (ρ.add (vs a1 c1 a2 c2)) pre (hx.and (imX I a1 a2 c2 es)) L) : (Tree.call f args m r m' t).holds C ρ pre hx L := by
  refine node_out AS (fun u hy => ∃ a1 c1 a2 c2 es, es.map SE.s = I.tb ∧ Dj a2 c2 es ∧ Sm a2 es ∧ (∀ q, (tabR a2 c2 es).F q → ¬ (HX.cl a1 (I.mem.map (Value.int .i64))).F q) ∧ u = vs a1 c1 a2 c2 ∧ hy = imX I a1 a2 c2 es) hargs (fun ids w hp hf => ?_) hhp hfit ?_ ?_
  · refine (hcall ids w hp hf).mono ?_
    rintro e w' ⟨a1, c1, a2, c2, es, h1, rfl, h2, hd, hX, hge, hb⟩
    exact ⟨_, _, ⟨a1, c1, a2, c2, es, h1, h2, ⟨fun q => rw_sm hX.2.2 (sec_ne q), fun e he q => rw_sm (hX.2.1 e he) (kc_ne q)⟩, hd, rfl, rfl⟩, by rw [hr], hX, fun k hk => ⟨hge k hk, imX_lt hX k hk⟩, hb⟩
  · rintro u hy ⟨a1, c1, a2, c2, es, _, _, _, _, rfl, rfl⟩
    exact ⟨hc _ _ _ _, h1 _ _ _ _⟩
  · rintro u hy ⟨a1, c1, a2, c2, es, q1, q2, q3, q4, rfl, rfl⟩ hfr
    exact h a1 c1 a2 c2 es q1 q2 q3 q4 hfr
end
theorem xfirst_any (a : Option Addr) (cap : Nat) (xs : List Int) (w : World) (H : Ints w a xs) (hl : xs.length ≤ 17592186044416) : Calls Try.prog 18 #[.slice a xs.length cap] w (ImNew w id ⟨0, xs, 0, im0.regs, []⟩) := by
  refine calls_at (tab_ok _) Try.func18 rfl tXFirst (ρ := ⟨[], [], [], [xs.length, cap], [a]⟩) (ids := []) (hx := HX.nil) rfl (Facts.initP rfl oneNil) ?_
  refine node_cl (n := xs.length) (xs := xs.map (Value.int .i64)) (fun _ => #[.slice a xs.length cap]) (fun a' c' => ⟨[], [], [], [xs.length, c'], [a']⟩) (by intros; kernel_rfl) (fun ids w2 hp hf => scloneN_any a cap xs w2 (cl_stay H.cells (fun k hk => hf.chg.block k hk (fun q => q))) hl) (by intros; kernel_rfl) (by kernel_rfl) (by kernel_rfl) (by intros; kernel_rfl) (fun _ _ => oneNil) ?_
  intro a1 c1 hn
  intro ids w2 hp hf
  refine ⟨a1, c1, none, 0, [], rfl, by kernel_rfl, ⟨fun i j e e' _ h => by simp at h, fun e he => (by cases he)⟩, (fun q hq => by
    rcases hq with ⟨e, he, _⟩ | hq
    · cases he
    · exact absurd rfl hq.1), ⟨hf.x.2, ⟨fun e he => (by cases he), HX.rw_nil _ _ _ _⟩⟩, ?_, hf.chg.below⟩
  rintro k (hk | ⟨e, he, _⟩ | hk)
  · exact (hn k hk).1
  · cases he
  · exact absurd rfl hk.1
theorem xvalid_any (I : Im) (a1 : Option Addr) (c1 : Nat) (a2 : Option Addr) (c2 : Nat) (es : List SE) (w : World) (H : ImAt w I a1 a2 es) (hl : es.length ≤ 4611686018427387904) : Calls Try.prog 16 #[imV I a1 c1 a2 c2] w (PureAt w (.bool (validI I))) := by
  refine calls_at (tab_ok _) Try.func16 rfl tXValid (ρ := ⟨imI I, [], [], [I.mem.length, c1, I.tb.length, c2], [a1, a2]⟩) (ids := []) (hx := HX.nil) (by kernel_rfl) (Facts.initP rfl oneNil) ?_
  obtain ⟨V, eV⟩ : ∃ V, V = validI I := ⟨_, rfl⟩
  rw [← eV]
  have keep : ∀ {m : Mem} {ρ : Env} {ids : List Nat} {hx : HX} {w2 : World} {R : Ending → World → Prop}, Facts ⟨Try.prog, w, fun _ => False, R⟩ m ρ ids hx w2 → ImAt w2 I a1 a2 es := fun hf => H.keep (fun k hk => hf.chg.block k hk (fun q => q))
  unfold validI at eV
  by_cases h1 : 0 ≤ I.ep
  case' neg => exact br_F (decide (I.ep ≥ 0)) (by kernel_rfl) (decide_eq_false h1) (pure_done (by intros; rw [show V = false from by rw [eV]; simp [h1]]; kernel_rfl))
  refine br_T (decide (I.ep ≥ 0)) (by kernel_rfl) (decide_eq_true h1) ?_
  by_cases h2 : I.ep ≤ 1099511627776
  case' neg => exact br_F (decide (I.ep ≤ 1099511627776)) (by kernel_rfl) (decide_eq_false h2) (pure_done (by intros; rw [show V = false from by rw [eV]; simp [h2]]; kernel_rfl))
  refine br_T (decide (I.ep ≤ 1099511627776)) (by kernel_rfl) (decide_eq_true h2) ?_
  by_cases h3 : 0 ≤ I.sl
  case' neg => exact br_F (decide (I.sl ≥ 0)) (by kernel_rfl) (decide_eq_false h3) (pure_done (by intros; rw [show V = false from by rw [eV]; simp [h3]]; kernel_rfl))
  refine br_T (decide (I.sl ≥ 0)) (by kernel_rfl) (decide_eq_true h3) ?_
  by_cases h4 : I.sl ≤ 1099511627776
  case' neg => exact br_F (decide (I.sl ≤ 1099511627776)) (by kernel_rfl) (decide_eq_false h4) (pure_done (by intros; rw [show V = false from by rw [eV]; simp [h4]]; kernel_rfl))
  refine br_T (decide (I.sl ≤ 1099511627776)) (by kernel_rfl) (decide_eq_true h4) ?_
  refine node_P ⟨[checkV I.mem], [], [], [], []⟩ #[.slice a1 I.mem.length c1] (.int .i64 (checkV I.mem)) (by intros; kernel_rfl) (by intros; kernel_rfl) (by kernel_rfl) (by kernel_rfl) (by kernel_rfl) oneNil (fun ids w2 hp hf => (check_any a1 c1 I.mem w2 (keep hf).mem).mono fun e w3 h => ⟨h.1, h.2 ▸ Below.refl _ _⟩) ?_
  by_cases h5 : checkV I.mem = 0
  case' neg => exact br_F (checkV I.mem == 0) (by kernel_rfl) (by simpa using h5) (pure_done (by intros; rw [show V = false from by rw [eV]; simp [h5]]; kernel_rfl))
  refine br_T (checkV I.mem == 0) (by kernel_rfl) (by simpa using h5) ?_
  refine node_P ⟨[], [validL I.regs], [], [], []⟩ #[.agg ((rgs I.regs).map (Value.int .i64)).toArray] (.bool (validL I.regs)) (by intros; kernel_rfl) (by intros; kernel_rfl) (by kernel_rfl) (by kernel_rfl) (by kernel_rfl) oneNil (fun ids w2 hp hf => by have := valid_any (rgs I.regs) rfl w2; rw [rgs_of H.reg] at this ⊢; exact this) ?_
  by_cases h6 : validL I.regs = true
  case' neg => exact br_F (validL I.regs) (by kernel_rfl) (by simpa using h6) (pure_done (by intros; rw [show V = false from by rw [eV]; simp [h6]]; kernel_rfl))
  refine br_T (validL I.regs) (by kernel_rfl) h6 ?_
  refine node_P ⟨[], [validT I.tb], [], [], []⟩ #[.slice a2 I.tb.length c2] (.bool (validT I.tb)) (by intros; kernel_rfl) (by intros; kernel_rfl) (by kernel_rfl) (by kernel_rfl) (by kernel_rfl) oneNil (fun ids w2 hp hf => by have := tvalid_any a2 c2 es w2 (keep hf).tab hl; rw [H.tb, H.len] at this; exact this) ?_
  exact pure_done (by intros; rw [show V = validT I.tb from by rw [eV]; simp [h1, h2, h3, h4, h5, h6]]; kernel_rfl)
theorem VI.fit {I : Im} (h : VI I) : I.mem.length ≤ 7 ∧ I.tb.length ≤ 16 := ⟨by
  have := setOkB_iff.1 h.mem; exact this.2.1, h.tb.len⟩
theorem xclone_any (I : Im) (a1 : Option Addr) (c1 : Nat) (a2 : Option Addr) (c2 : Nat) (es : List SE) (w : World) (H : ImAt w I a1 a2 es) (hl : I.mem.length ≤ 17592186044416) (hl2 : es.length ≤ 1000000) (hk : ∀ e ∈ es, e.s.kept.length ≤ 1000000) : Calls Try.prog 24 #[imV I a1 c1 a2 c2] w (ImNew w id I) := by
  refine calls_at (tab_ok _) Try.func24 rfl tXClone (ρ := ⟨imI I, [], [], [I.mem.length, c1, I.tb.length, c2], [a1, a2]⟩) (ids := []) (hx := HX.nil) (by kernel_rfl) (Facts.initP rfl oneNil) ?_
  have keep : ∀ {m : Mem} {ρ : Env} {ids : List Nat} {hx : HX} {w2 : World} {R : Ending → World → Prop}, Facts ⟨Try.prog, w, fun _ => False, R⟩ m ρ ids hx w2 → ImAt w2 I a1 a2 es := fun hf => H.keep (fun k hk => hf.chg.block k hk (fun q => q))
  refine node_cl (n := I.mem.length) (xs := I.mem.map (Value.int .i64)) (fun _ => #[.slice a1 I.mem.length c1]) (fun a' c' => ⟨[], [], [], [I.mem.length, c'], [a']⟩) (by intros; kernel_rfl) (fun ids w2 hp hf => scloneN_any a1 c1 I.mem w2 (keep hf).mem.cells hl) (by intros; kernel_rfl) (by kernel_rfl) (by kernel_rfl) (by intros; kernel_rfl) (fun _ _ => oneNil) ?_
  intro b1 d1 hn1
  refine node_tb (V := id) (tb := I.tb) (fun _ => #[.slice a2 I.tb.length c2]) (fun a' c' => ⟨[], [], [], [I.tb.length, c'], [a']⟩) (by intros; kernel_rfl) (fun ids w2 hp hf => by
    have := tclone_any a2 c2 es w2 (keep hf).tab hl2 hk
    rw [H.tb, H.len] at this; exact this) (by intros; kernel_rfl) (by kernel_rfl) (by kernel_rfl) (by intros; kernel_rfl) (fun _ _ => oneNil) ?_
  intro b2 d2 es2 hm hdj hsm hn2
  intro ids w2 hp hf
  refine ⟨b1, d1, b2, d2, es2, hm, by kernel_rfl, hdj, fun q hq hk => (hn2 q hq).2 (.inr hk), ⟨hf.x.1.2, hf.x.2⟩, ?_, hf.chg.below⟩
  rintro k (hk | hk)
  · exact (hn1 k hk).1
  · exact (hn2 k hk).1
end Go.Proofs.Ytfjiolgdcphjhaa

namespace Go.Proofs.Ytfjiolgdcphjhaa
open Go.ChangeShapes Go.WideShapes Go.ChangeAt Go.RowKit Go.Syn Go.Eng
set_option linter.unusedVariables false
set_option linter.unusedSimpArgs false
set_option maxRecDepth 100000
def RunNew (w : World) (b : Nat) (I : Im) (a1 : Option Addr) (c1 : Nat) (V : Value) (e : Ending) (w' : World) : Prop := ∃ a2 c2 es, es.map SE.s = I.tb ∧ e = .returned V ∧ Blk w' b (imC I a1 c1 a2 c2) 28 ∧ Dj a2 c2 es ∧ (tabR a2 c2 es).X w' ∧ (∀ k, (tabR a2 c2 es).F k → w.heap.size ≤ k) ∧ w.grownBy w' (some b)
def resC (R : RunR) : Value := .agg #[.int .i64 R.k, .int .i64 R.re, .int .i64 R.im]
theorem xrun_any (b : Nat) (I : Im) (a1 : Option Addr) (c1 : Nat) (a2 : Option Addr) (c2 : Nat) (es : List SE) (c : CmD) (w : World) (hb : Blk w b (imC I a1 c1 a2 c2) 28) (H : TbAt w a2 es) (hes : es.map SE.s = I.tb) (hv : VT I.tb) (hr : I.regs.length = 16) (hc : cmdV c = 0) :
    Calls Try.prog 39 #[.pointer (some ⟨b, 0, none⟩), .agg c.cells.toArray] w (RunNew w b (runV I c).i a1 c1 (resC (runV I c))) := by
  refine calls_at (tab_ok _) Try.func39 rfl tXRun (ρ := ⟨imI I ++ c.is, [], [], [I.mem.length, c1, I.tb.length, c2], [a1, a2]⟩) (ids := [b]) (hx := HX.nil) (by kernel_rfl) (Facts.init1 rfl oneNil hb (by kernel_rfl)) ?_
  have hlen : es.length = I.tb.length := by rw [← hes, List.length_map]
  obtain ⟨h1, h2, h3, h4, h5, h6, h7⟩ := opB_of hc
  have hat := hv.ask (sess := c.sess) (seq := c.seq) (ack := c.ack) h1 h2 (by omega)
  obtain ⟨Q, eQ⟩ : ∃ Q, Q = runV I c := ⟨_, rfl⟩
  rw [← eQ]
  unfold runV at eQ
  obtain ⟨A, eA⟩ : ∃ A, A = askV I.tb c.sess c.seq c.ack := ⟨_, rfl⟩
  rw [← eA] at eQ hat
  obtain ⟨p, ep⟩ : ∃ p, p = applyM I.regs c.op := ⟨_, rfl⟩
  rw [← ep] at eQ
  have hpl : p.1.length = 16 := by rw [ep]; exact (applyM_len _ _).trans hr
  refine par_i ?_ ?_
  all_goals
    refine node_tb (V := askRet A.k A.re A.im A.d) (tb := A.t) (fun _ => #[.slice a2 I.tb.length c2, cmdC c.sess c.seq c.ack c.op.kind c.op.reg c.op.tg c.op.re c.op.im]) (fun a' c' => ⟨[A.k, A.re, A.im], [A.d], [], [A.t.length, c'], [a']⟩) (by intros; kernel_rfl) (fun ids w2 hp hf => by
      have hbb : w2.heap[b]? = w.heap[b]? := by
        have := hf.blkAt 0 rfl
        rw [idAt0 hp] at this
        exact this.trans (Eq.trans (by kernel_rfl) hb.symm)
      have := task_any a2 c2 es c.sess c.seq c.ack c.op.kind c.op.reg c.op.tg c.op.re c.op.im w2 (H.keep (fun k hk => by
        by_cases q : k = b
        · rw [q]; exact hbb
        · exact hf.chg.block k hk q)) (by rw [hes]; exact hv.ok)
      rw [hes, ← eA, hlen] at this
      exact this) (by intros; kernel_rfl) (by kernel_rfl) (by kernel_rfl) (by intros; kernel_rfl) (fun _ _ => oneNil) ?_
    intro a' c' es' hm' hdj' hsm' hn'
    have hl' : es'.length = A.t.length := by rw [← hm', List.length_map]
    rcases Bool.eq_false_or_eq_true A.d with hd | hd
    · refine br_F (!A.d) (by kernel_rfl) (by rw [hd]; rfl) ?_
      rw [if_pos hd] at eQ
      intro ids w2 hp hf
      have hblk := hf.blkAt 0 rfl
      rw [idAt0 hp] at hblk
      subst eQ
      exact ⟨a', c', es', hm', by kernel_rfl, hblk.trans (by kernel_rfl), hdj', hf.x.2, fun k hk => (hn' k hk).1, hf.chg.grown⟩
    · refine br_T (!A.d) (by kernel_rfl) (by rw [hd]; rfl) ?_
      rw [if_neg (by rw [hd]; decide)] at eQ
      refine node_P ⟨rgs p.1 ++ [p.2.1, p.2.2.1, p.2.2.2], [], [], [], []⟩ #[.agg ((rgs I.regs).map (Value.int .i64)).toArray, .agg c.op.cells.toArray] (resV p) (by intros; kernel_rfl) (fun ids => Eq.trans (b := resV (rgs p.1, p.2)) (by kernel_rfl) (by unfold resV; rw [rgs_of hpl])) (by kernel_rfl) (by kernel_rfl) (by kernel_rfl) oneNil (fun ids w2 hp hf => by
        have := apply_any (rgs I.regs) rfl c.op w2
        rw [rgs_of hr] at this ⊢
        rw [ep]; exact this) ?_
      refine node_tb (V := id) (tb := keepV A.t c.sess c.seq p.2.1 p.2.2.1 p.2.2.2) (fun _ => #[.slice a' A.t.length c', cmdC c.sess c.seq c.ack c.op.kind c.op.reg c.op.tg c.op.re c.op.im, .agg #[.int .i64 p.2.1, .int .i64 p.2.2.1, .int .i64 p.2.2.2]]) (fun a3 c3 => ⟨[], [], [], [(keepV A.t c.sess c.seq p.2.1 p.2.2.1 p.2.2.2).length, c3], [a3]⟩) (by intros; kernel_rfl) (fun ids w2 hp hf => by
        have := tkeep_any a' c' es' c.sess c.seq c.ack c.op.kind c.op.reg c.op.tg c.op.re c.op.im p.2.1 p.2.2.1 p.2.2.2 w2 (tabR_at hf.x.2) (by rw [hm']; exact hat.ok)
        rw [hm', hl'] at this
        exact this) (by intros; kernel_rfl) (by kernel_rfl) (by kernel_rfl) (by intros; kernel_rfl) (fun _ _ => oneNil) ?_
      intro a3 c3 es3 hm3 hdj3 hsm3 hn3
      intro ids w2 hp hf
      have hblk := hf.blkAt 0 rfl
      rw [idAt0 hp] at hblk
      subst eQ
      exact ⟨a3, c3, es3, hm3, by kernel_rfl, hblk.trans (by kernel_rfl), hdj3, hf.x.2, fun k hk => (hn3 k hk).1, hf.chg.grown⟩
end Go.Proofs.Ytfjiolgdcphjhaa

namespace Go.Proofs.Ytfjiolgdcphjhaa
open Go.ChangeShapes Go.WideShapes Go.ChangeAt Go.RowKit Go.Syn Go.Eng
set_option linter.unusedVariables false
set_option linter.unusedSimpArgs false
set_option maxRecDepth 100000
def exX (R : ExR) (a1 a2 : Option Addr) (c2 : Nat) (es : List SE) (oa : Option Addr) : HX := (imX R.i a1 a2 c2 es).and (HX.cl oa (ancells R.an))
def exRet (R : ExR) (a1 : Option Addr) (c1 : Nat) (a2 : Option Addr) (c2 : Nat) (oa : Option Addr) (oc : Nat) : Value := .tuple #[imV R.i a1 c1 a2 c2, .slice oa R.an.length oc, .int .i64 R.e]
def ExNew (w : World) (R : ExR) (e : Ending) (w' : World) : Prop := ∃ a1 c1 a2 c2 es oa oc, es.map SE.s = R.i.tb ∧ e = .returned (exRet R a1 c1 a2 c2 oa oc) ∧ Dj a2 c2 es ∧ (exX R a1 a2 c2 es oa).X w' ∧ (∀ k, (exX R a1 a2 c2 es oa).F k → w.heap.size ≤ k) ∧ Below w.heap.size w w'
theorem exX_lt {R : ExR} {a1 a2 : Option Addr} {c2 : Nat} {es : List SE} {oa : Option Addr} {w : World} (h : (exX R a1 a2 c2 es oa).X w) : ∀ k, (exX R a1 a2 c2 es oa).F k → k < w.heap.size := fun k hk => hk.elim (imX_lt h.1 k) (cl_sep h.2 k)
theorem dj_nil (a : Option Addr) (c : Nat) : Dj a c [] := ⟨fun i j e e' _ h => by simp at h, fun e he => (by cases he)⟩
theorem ex_err {W : World} {ρ : Env} {pre : List Nat} {hx : HX} {L : Stack} {v : SV} {m : Mem} (x : Int) (hv : ∀ ids, v.den ρ ids = exRet ⟨im0, [], x⟩ none 0 none 0 none 0) : (Tree.done v m).holds ⟨Try.prog, W, fun _ => False, ExNew W ⟨im0, [], x⟩⟩ ρ pre hx L := fun ids w2 hp hf => by
  refine ⟨none, 0, none, 0, [], none, 0, rfl, by rw [hv ids], dj_nil _ _, ⟨⟨cl_nil _ _, ⟨fun e he => (by cases he), HX.rw_nil _ _ _ _⟩⟩, cl_nil _ _⟩, ?_, hf.chg.below⟩
  rintro k ((hk | ⟨e, he, _⟩ | hk) | hk)
  · exact absurd rfl hk.1
  · cases he
  · exact absurd rfl hk.1
  · exact absurd rfl hk.1
theorem an_sm {l : List AnD} {i : Nat} {x : AnD} {a : Option Addr} {w : World} (H : Cells w a (ancells l)) (h : l[i]? = some x) : a.isSome = true :=
  (flat_part an_len H h (o := 0) x.cells (fun j u hj => by rw [Nat.zero_add]; exact hj) (by simp [AnD.cells])).1
theorem an_all {l : List AnD} {x : AnD} (i : Nat) (h : l[i]? = some x) {a : Option Addr} {w : World} (H : Cells w a (ancells l)) : CellsAt w (.pointer (some (((a.getD ⟨0, 0, none⟩).add (i * 5)).add 0))) x.cells (fun _ => False) :=
  (flat_part an_len H h (o := 0) x.cells (fun j u hj => by rw [Nat.zero_add]; exact hj) (by simp [AnD.cells])).2 _ (fun q => q)
section
variable {C : Cfg} {ρ : Env} {pre : List Nat} {hx : HX} {L : Stack} {m m' : Mem} {args : List SV} {r : SV} {t : Tree}
theorem node_ex {f : Nat} {R : ExR} (AS : List Nat → Array Value) (hargs : ∀ ids, (args.map (SV.den ρ ids)).toArray = AS ids) (hcall : ∀ ids w, pre <+: ids → Facts C m ρ ids hx w → Calls C.P f (AS ids) w (ExNew w R))
    (hr : ∀ a1 c1 a2 c2 oa oc ids, r.den (ρ.add ⟨imI R.i ++ [R.e], [], [], [R.i.mem.length, c1, R.i.tb.length, c2, R.an.length, oc], [a1, a2, oa]⟩) ids = exRet R a1 c1 a2 c2 oa oc) (hhp : m'.hp = m.hp) (hfit : hpFits m.c m.hp.length m.hp = true)
    (hc : ∀ a1 c1 a2 c2 oa oc, (ρ.add ⟨imI R.i ++ [R.e], [], [], [R.i.mem.length, c1, R.i.tb.length, c2, R.an.length, oc], [a1, a2, oa]⟩).cnt = m'.c)
    (h : ∀ a1 c1 a2 c2 es oa oc, es.map SE.s = R.i.tb → Dj a2 c2 es → Sm a2 es → (R.an ≠ [] → oa.isSome = true) → (∀ k, (exX R a1 a2 c2 es oa).F k → C.W.heap.size ≤ k ∧ ¬ hx.F k) → t.holds C (ρ.add ⟨imI R.i ++ [R.e], [], [], [R.i.mem.length, c1, R.i.tb.length, c2, R.an.length, oc], [a1, a2, oa]⟩) pre (hx.and (exX R a1 a2 c2 es oa)) L) : (Tree.call f args m r m' t).holds C ρ pre hx L := by
  refine node_out AS (fun u hy => ∃ a1 c1 a2 c2 es oa oc, es.map SE.s = R.i.tb ∧ Dj a2 c2 es ∧ Sm a2 es ∧ (R.an ≠ [] → oa.isSome = true) ∧ u = ⟨imI R.i ++ [R.e], [], [], [R.i.mem.length, c1, R.i.tb.length, c2, R.an.length, oc], [a1, a2, oa]⟩ ∧ hy = exX R a1 a2 c2 es oa) hargs (fun ids w hp hf => ?_) hhp hfit ?_ ?_
  · refine (hcall ids w hp hf).mono ?_
    rintro e w' ⟨a1, c1, a2, c2, es, oa, oc, h1, rfl, h2, hX, hge, hb⟩
    exact ⟨_, _, ⟨a1, c1, a2, c2, es, oa, oc, h1, h2, ⟨fun q => rw_sm hX.1.2.2 (sec_ne q), fun e he q => rw_sm (hX.1.2.1 e he) (kc_ne q)⟩, fun q => (by
      cases hq : R.an with
      | nil => exact absurd hq q
      | cons x l => exact an_sm (i := 0) (x := x) hX.2 (by rw [hq]; rfl)), rfl, rfl⟩, by rw [hr], hX, fun k hk => ⟨hge k hk, exX_lt hX k hk⟩, hb⟩
  · rintro u hy ⟨a1, c1, a2, c2, es, oa, oc, _, _, _, _, rfl, rfl⟩
    exact ⟨hc _ _ _ _ _ _, oneNil⟩
  · rintro u hy ⟨a1, c1, a2, c2, es, oa, oc, q1, q2, q3, q4, rfl, rfl⟩ hfr
    exact h a1 c1 a2 c2 es oa oc q1 q2 q3 q4 hfr
end
theorem valE_zero {v : Vl} (h : valE v = 0) : (v.k = 0 ∧ v.cs = [] ∧ v.ns = []) ∨ (v.k = 2 ∧ v.cs = [] ∧ setOkB v.ns = true) ∨ (v.k = 1 ∧ v.cs.length ≤ 8 ∧ v.cs ≠ [] ∧ v.ns = [] ∧ firstE v.cs = 0) := by
  unfold valE at h
  split at h
  · rename_i h0
    by_cases q : v.cs ≠ [] ∨ v.ns ≠ []
    · rw [if_pos q] at h; cases h
    · simp only [not_or, Classical.not_not] at q
      exact .inl ⟨h0, q.1, q.2⟩
  · split at h
    · rename_i h2
      by_cases q : v.cs ≠ []
      · rw [if_pos q] at h; cases h
      · rw [if_neg q] at h
        simp only [Classical.not_not] at q
        exact .inr (.inl ⟨h2, q, check_zero.1 h⟩)
    · split at h
      · rename_i h1
        by_cases q : v.cs = [] ∨ 8 < v.cs.length ∨ v.ns ≠ []
        · rw [if_pos q] at h; cases h
        · rw [if_neg q] at h
          simp only [not_or, Classical.not_not] at q
          exact .inr (.inr ⟨h1, by omega, q.1, q.2.2, h⟩)
      · cases h
def ExJ (I : Im) (slot : Int) (v : Vl) (vs : Vals) (hx : HX) : Prop := VI I ∧ slot = I.sl + 1 ∧ slot ≤ 1099511627776 ∧ ¬ (v.k = 2 ∧ 1099511627776 ≤ I.ep) ∧ vs = ⟨[], [], [], [], []⟩ ∧ hx = HX.nil
def ExI (W : World) (G : Im) (cs : List CmD) (b1 : Option Addr) (d1 : Nat) (vs : Vals) (hx : HX) : Prop := ∃ (k : Nat) (a2 : Option Addr) (c2 : Nat) (es : List SE) (oa : Option Addr) (oc : Nat), k ≤ cs.length ∧ es.map SE.s = (runAll G (cs.take k)).1.tb ∧ Dj a2 c2 es ∧
  (∀ q, (tabR a2 c2 es).F q → W.heap.size ≤ q ∧ ¬ ((HX.cl b1 (G.mem.map (Value.int .i64))).and (HX.rw 5 56 oa k oc (ancells (runAll G (cs.take k)).2))).F q) ∧ (∀ q, (HX.rw 5 56 oa k oc (ancells (runAll G (cs.take k)).2)).F q → W.heap.size ≤ q ∧ ¬ (HX.cl b1 (G.mem.map (Value.int .i64))).F q) ∧
  vs = ⟨(k : Int) :: imI (runAll G (cs.take k)).1, [], [], [k, oc, G.mem.length, d1, (runAll G (cs.take k)).1.tb.length, c2], [oa, b1, a2]⟩ ∧ hx = ((HX.cl b1 (G.mem.map (Value.int .i64))).and (HX.rw 5 56 oa k oc (ancells (runAll G (cs.take k)).2))).and (tabR a2 c2 es)
set_option maxHeartbeats 2000000 in
theorem xexec_any (I : Im) (a1 : Option Addr) (c1 : Nat) (a2 : Option Addr) (c2 : Nat) (es : List SE) (slot : Int) (v : Vl) (b1 : Option Addr) (d1 : Nat) (b2 : Option Addr) (d2 : Nat) (w : World) (H : ImAt w I a1 a2 es) (hl : es.length ≤ 4611686018427387904) (hm : I.mem.length ≤ 17592186044416) (HV : VlAt w v b1 b2) :
    Calls Try.prog 12 #[imV I a1 c1 a2 c2, .int .i64 slot, vlV v b1 d1 b2 d2] w (ExNew w (execV I slot v)) := by
  refine calls_at (tab_ok _) Try.func12 rfl tXExec (ρ := ⟨imI I ++ [slot, v.k], [], [], [I.mem.length, c1, I.tb.length, c2, v.cs.length, d1, v.ns.length, d2], [a1, a2, b1, b2]⟩) (ids := []) (hx := HX.nil) (by kernel_rfl) (Facts.initP rfl oneNil) ?_
  obtain ⟨R, eR⟩ : ∃ R, R = execV I slot v := ⟨_, rfl⟩
  rw [← eR]
  unfold execV at eR
  have keep : ∀ {m : Mem} {ρ : Env} {ids : List Nat} {hx : HX} {w2 : World} {R : Ending → World → Prop}, Facts ⟨Try.prog, w, fun _ => False, R⟩ m ρ ids hx w2 → ImAt w2 I a1 a2 es := fun hf => H.keep (fun k hk => hf.chg.block k hk (fun q => q))
  have keepV : ∀ {m : Mem} {ρ : Env} {ids : List Nat} {hx : HX} {w2 : World} {R : Ending → World → Prop}, Facts ⟨Try.prog, w, fun _ => False, R⟩ m ρ ids hx w2 → VlAt w2 v b1 b2 := fun hf => HV.fit.at_ ((vlX v b1 b2).loc _ _ HV.X fun k hk => hf.chg.block k (vlX_sep HV.X k hk) (fun q => q))
  refine ⟨ExJ I slot v, ?_, ?_⟩
  · refine node_P ⟨[], [validI I], [], [], []⟩ #[imV I a1 c1 a2 c2] (.bool (validI I)) (by intros; kernel_rfl) (by intros; kernel_rfl) (by kernel_rfl) (by kernel_rfl) (by kernel_rfl) oneNil (fun ids w2 hp hf => xvalid_any I a1 c1 a2 c2 es w2 (keep hf) hl) ?_
    rcases Bool.eq_false_or_eq_true (validI I) with hv | hv
    case' inr =>
      rw [if_pos hv] at eR
      subst eR
      exact br_T (!validI I) (by kernel_rfl) (by rw [hv]; rfl) (ex_err 44 (by intros; kernel_rfl))
    rw [if_neg (by rw [hv]; decide)] at eR
    have hI := (validI_iff I).1 hv
    refine br_F (!validI I) (by kernel_rfl) (by rw [hv]; rfl) ?_
    have hw : IntKind.i64.wrap (I.sl + 1) = I.sl + 1 := by have := hI.sl0; have := hI.sl1; exact wrap_i64 (by omega)
    by_cases h1 : slot = I.sl + 1
    case' neg =>
      rw [if_pos (.inl h1)] at eR
      subst eR
      exact br_T (slot != IntKind.i64.wrap (I.sl + 1)) (by kernel_rfl) (by rw [hw]; simpa using h1) (ex_err 61 (by intros; kernel_rfl))
    refine br_F (slot != IntKind.i64.wrap (I.sl + 1)) (by kernel_rfl) (by rw [hw]; simpa using h1) ?_
    by_cases h2 : 1099511627776 < slot
    case' pos =>
      rw [if_pos (.inr (.inl h2))] at eR
      subst eR
      exact br_T (decide (slot > 1099511627776)) (by kernel_rfl) (decide_eq_true h2) (ex_err 61 (by intros; kernel_rfl))
    refine br_F (decide (slot > 1099511627776)) (by kernel_rfl) (decide_eq_false h2) ?_
    by_cases h3 : v.k = 2
    · refine br_T (v.k == 2) (by kernel_rfl) (by simpa using h3) ?_
      by_cases h4 : 1099511627776 ≤ I.ep
      · rw [if_pos (.inr (.inr ⟨h3, h4⟩))] at eR
        subst eR
        exact br_T (decide (I.ep ≥ 1099511627776)) (by kernel_rfl) (decide_eq_true h4) (ex_err 61 (by intros; kernel_rfl))
      · refine br_F (decide (I.ep ≥ 1099511627776)) (by kernel_rfl) (decide_eq_false h4) ?_
        exact again_V ⟨[], [], [], [], []⟩ rfl (by intros; kernel_rfl) HX.nil (fun w2 ids hf => HXok.none _ _) ⟨hI, h1, by omega, fun q => h4 q.2, rfl, rfl⟩
    · refine br_F (v.k == 2) (by kernel_rfl) (by simpa using h3) ?_
      exact again_V ⟨[], [], [], [], []⟩ rfl (by intros; kernel_rfl) HX.nil (fun w2 ids hf => HXok.none _ _) ⟨hI, h1, by omega, fun q => h3 q.1, rfl, rfl⟩
  rintro vs hx' hcnt ⟨hI, h1, h2, h3, rfl, rfl⟩
  refine holds_env (ρ' := ⟨imI I ++ [slot, v.k], [], [], [I.mem.length, c1, I.tb.length, c2, v.cs.length, d1, v.ns.length, d2], [a1, a2, b1, b2]⟩) (by kernel_rfl) ?_
  rw [if_neg (by rw [(validI_iff I).2 hI]; decide), if_neg (by simp only [not_or]; exact ⟨fun q => q h1, by omega, h3⟩)] at eR
  refine node_P ⟨[valE v], [], [], [], []⟩ #[vlV v b1 d1 b2 d2] (.int .i64 (valE v)) (by intros; kernel_rfl) (by intros; kernel_rfl) (by kernel_rfl) (by kernel_rfl) (by kernel_rfl) oneNil (fun ids w2 hp hf => vchk_any v b1 d1 b2 d2 w2 (keepV hf)) ?_
  by_cases h4 : valE v = 0
  case' neg =>
    rw [if_pos h4] at eR
    subst eR
    exact br_T (valE v != 0) (by kernel_rfl) (by simpa using h4) (ex_err (valE v) (by intros; kernel_rfl))
  rw [if_neg (fun q => q h4)] at eR
  refine br_F (valE v != 0) (by kernel_rfl) (by simpa using h4) ?_
  have hfit := hI.fit
  refine node_im (V := id) (I := I) (fun _ => #[imV I a1 c1 a2 c2]) (fun x1 y1 x2 y2 => ⟨imI I, [], [], [I.mem.length, y1, I.tb.length, y2], [x1, x2]⟩) (by intros; kernel_rfl) (fun ids w2 hp hf => xclone_any I a1 c1 a2 c2 es w2 (keep hf) hm (by rw [H.len]; omega) (fun e he => by
    have := (hI.tb.each e.s (by rw [← H.tb]; exact List.mem_map_of_mem he)).len; omega)) (by intros; kernel_rfl) (by kernel_rfl) (by kernel_rfl) (by intros; kernel_rfl) (fun _ _ _ _ => oneNil) ?_
  intro x1 y1 x2 y2 es1 hm1 hdj1 hsm1 had1 hn1
  refine holds_eq (show _ = imX I x1 x2 y2 es1 from HX.nil_and _) ?_
  refine holds_env (ρ' := ⟨imI I ++ [slot, v.k, valE v] ++ imI I, [], [], [I.mem.length, c1, I.tb.length, c2, v.cs.length, d1, v.ns.length, d2, I.mem.length, y1, I.tb.length, y2], [a1, a2, b1, b2, x1, x2]⟩) (by kernel_rfl) ?_
  by_cases k2 : v.k = 2
  · refine br_T (v.k == 2) (by kernel_rfl) (by simpa using k2) ?_
    have hcs : v.cs = [] := by rcases valE_zero h4 with q | q | q <;> first | exact q.2.1 | omega
    have hns : setOkB v.ns = true := by
      rcases valE_zero h4 with q | q | q
      · omega
      · exact q.2.2
      · omega
    refine node_cl (n := v.ns.length) (xs := v.ns.map (Value.int .i64)) (fun _ => #[.slice b2 v.ns.length d2]) (fun a' c' => ⟨[], [], [], [v.ns.length, c'], [a']⟩) (by intros; kernel_rfl) (fun ids w2 hp hf => scloneN_any b2 d2 v.ns w2 (keepV hf).n.cells (keepV hf).l2) (by intros; kernel_rfl) (by kernel_rfl) (by kernel_rfl) (by intros; kernel_rfl) (fun _ _ => oneNil) ?_
    intro z1 u1 hz
    have hw : IntKind.i64.wrap (I.ep + 1) = I.ep + 1 := by have := hI.ep0; have := hI.ep1; exact wrap_i64 (by omega)
    rw [hcs] at eR
    intro ids w2 hp hf
    refine ⟨z1, u1, x2, y2, es1, none, 0, by rw [eR]; unfold goI; rw [if_pos k2]; exact hm1, ?_, hdj1, ?_, ?_, hf.chg.below⟩
    · rw [eR]; unfold goI; rw [if_pos k2]
      show _ = Ending.returned (exRet ⟨⟨I.ep + 1, v.ns, slot, I.regs, I.tb⟩, [], 0⟩ _ _ _ _ _ _)
      rw [← hw]; kernel_rfl
    · rw [eR]; unfold goI; rw [if_pos k2]
      exact ⟨⟨hf.x.2, hf.x.1.2⟩, cl_nil _ _⟩
    · rw [eR]; unfold goI; rw [if_pos k2]
      rintro k ((hk | hk) | hk)
      · exact (hz k hk).1
      · exact (hn1 k (.inr hk)).1
      · exact absurd rfl hk.1
  refine br_F (v.k == 2) (by kernel_rfl) (by simpa using k2) ?_
  obtain ⟨G, eG⟩ : ∃ G : Im, G = ⟨I.ep, I.mem, slot, I.regs, I.tb⟩ := ⟨_, rfl⟩
  have hgo : goI I slot v = G := by unfold goI; rw [if_neg k2, eG]
  rw [hgo] at eR
  have hG : VI G := by rw [eG]; exact ⟨hI.ep0, hI.ep1, by have := hI.sl0; show 0 ≤ slot; omega, h2, hI.mem, hI.regs, hI.tb⟩
  have hGr : G.regs.length = 16 := by rw [eG]; exact H.reg
  have hGm : G.mem = I.mem := by rw [eG]
  by_cases k1 : v.k = 1
  case' neg =>
    refine br_F (v.k == 1) (by kernel_rfl) (by simpa using k1) ?_
    have hcs : v.cs = [] := by rcases valE_zero h4 with q | q | q <;> first | exact q.2.1 | omega
    rw [hcs] at eR
    intro ids w2 hp hf
    subst eR
    refine ⟨x1, y1, x2, y2, es1, none, 0, by rw [eG]; exact hm1, by rw [eG]; kernel_rfl, hdj1, by rw [eG]; exact ⟨hf.x, cl_nil _ _⟩, ?_, hf.chg.below⟩
    rw [eG]
    rintro k (hk | hk)
    · exact (hn1 k hk).1
    · exact absurd rfl hk.1
  refine br_T (v.k == 1) (by kernel_rfl) (by simpa using k1) ?_
  obtain ⟨hc8, hcz⟩ : v.cs.length ≤ 8 ∧ firstE v.cs = 0 := by
    rcases valE_zero h4 with q | q | q
    · omega
    · omega
    · exact ⟨q.2.1, q.2.2.2.2⟩
  have hall := firstE_all hcz
  have hrow0 : ∀ q, ¬ (HX.rw 5 56 none 0 0 (ancells [])).F q := fun q hq => absurd rfl hq.1
  refine loop_i (ExI w G v.cs x1 y1) (fun vs => v.cs.length - (vs.i.headD 0).toNat) (fun ids w2 hp hf => ⟨((HX.cl x1 (G.mem.map (Value.int .i64))).and (HX.rw 5 56 none 0 0 (ancells []))).and (tabR x2 y2 es1), ⟨⟨⟨by rw [hGm]; exact hf.x.1, HX.rw_nil _ _ _ _⟩, hf.x.2⟩, ?_⟩, 0, x2, y2, es1, none, 0, Nat.zero_le _, by rw [eG]; exact hm1, hdj1, fun q hq => ⟨(hn1 q (.inr hq)).1, fun z => z.elim (fun z => had1 q hq (by rw [← hGm]; exact z)) (fun z => hrow0 q z)⟩, fun q hq => absurd hq (hrow0 q), by rw [eG]; kernel_rfl, by kernel_rfl⟩) ?_
  · rintro k ((hk | hk) | hk)
    · exact hf.sep k (.inl (by rw [← hGm]; exact hk))
    · exact absurd hk (hrow0 k)
    · exact hf.sep k (.inr hk)
  rintro vs hx' hcnt' ⟨k, a3, c3, es3, oa, oc, hk, hm3, hdj3, hn3, ho3, rfl, rfl⟩
  obtain ⟨J, eJ⟩ : ∃ J, J = runAll G (v.cs.take k) := ⟨_, rfl⟩
  rw [← eJ] at hm3 hn3 ho3 hcnt' ⊢
  have hJ := hG.all hGr hall k
  rw [← eJ] at hJ
  have hJk := runAll_keep G (v.cs.take k) (G, [])
  have hJm : J.1.mem = G.mem := by rw [eJ]; exact hJk.1
  have hJl : J.2.length = k := by rw [eJ]; exact (hJk.2.2.2).trans (by simp; omega)
  have hn3' : es3.length = J.1.tb.length := by rw [← hm3, List.length_map]
  by_cases hlt : k < v.cs.length
  case' neg =>
    refine br_F (decide ((k : Int) < (v.cs.length : Int))) (by kernel_rfl) (decide_eq_false (by omega)) ?_
    have hke : v.cs.take k = v.cs := List.take_of_length_le (by omega)
    rw [hke] at eJ
    rw [← eJ] at eR
    subst eR
    intro ids w2 hp hf
    refine ⟨x1, y1, a3, c3, es3, oa, oc, hm3, ?_, hdj3, ⟨⟨by rw [hJm]; exact hf.x.1.1, hf.x.2⟩, (rw_cells hf.x.1.2)⟩, ?_, hf.chg.below⟩
    · show _ = Ending.returned (Value.tuple #[imV J.1 x1 y1 a3 c3, .slice oa J.2.length oc, .int .i64 0])
      unfold imV imC
      rw [hJl, hJm]; kernel_rfl
    · rintro q ((hq | hq) | hq)
      · rw [hJm] at hq
        exact (hn1 q (.inl (by rw [← hGm]; exact hq))).1
      · exact (hn3 q hq).1
      · exact (ho3 q ((rw_cl hf.x.1.2).2 q hq)).1
  refine br_T (decide ((k : Int) < (v.cs.length : Int))) (by kernel_rfl) (decide_eq_true (by omega)) ?_
  obtain ⟨c, hc⟩ : ∃ c, v.cs[k]? = some c := ⟨_, List.getElem?_eq_getElem hlt⟩
  have hce := c_elt HV.c hc
  refine need_k (b1.isSome = true ∧ (0 : Int) ≤ k ∧ (k : Int) < v.cs.length) (by kernel_rfl) ⟨hce.1, by omega, by omega⟩ ?_
  refine node_ld0 (k := ⟨58, 0, 0, 18, 9⟩) ⟨c.is, [], [], [], []⟩ (.pointer (some (((b1.getD ⟨0, 0, none⟩).add (k * 8)).add 0))) c.cells (by intros; kernel_rfl) (by intros; kernel_rfl) (hce.2 _ (fun q => q)) hcnt' (by kernel_rfl) oneNil ?_
  obtain ⟨Q, eQ⟩ : ∃ Q, Q = runV J.1 c := ⟨_, rfl⟩
  have hQm : Q.i.mem = G.mem := by rw [eQ]; exact (runV_mem J.1 c).1.trans hJm
  refine node_touch (rest := (HX.cl x1 (G.mem.map (Value.int .i64))).and (HX.rw 5 56 oa k oc (ancells J.2))) (h0 := tabR a3 c3 es3) (fun ids => #[.pointer (some ⟨idAt ids 0, 0, none⟩), .agg c.cells.toArray]) (fun vs h' => ∃ a4 c4 es4, es4.map SE.s = Q.i.tb ∧ Dj a4 c4 es4 ∧ (∀ q, (tabR a4 c4 es4).F q → w.heap.size ≤ q) ∧ vs = ⟨imI Q.i ++ [Q.k, Q.re, Q.im], [], [], [G.mem.length, y1, Q.i.tb.length, c4], [x1, a4]⟩ ∧ h' = tabR a4 c4 es4) rfl rfl (by intros; kernel_rfl) (fun ids w2 hp hf => ?_) (fun q hq => ⟨(hn3 q hq).2, .inl (hn3 q hq).1⟩) (by kernel_rfl) ?_ ?_
  · have hb0 := hf.blkAt 0 rfl
    have := xrun_any (idAt ids 0) J.1 x1 y1 a3 c3 es3 c w2 (hb0.trans (Eq.trans (b := some (.cells (imC ⟨J.1.ep, G.mem, J.1.sl, J.1.regs, J.1.tb⟩ x1 y1 a3 c3).toArray 28 (0, 0))) (by kernel_rfl) (by unfold imC; rw [hJm]))) (tabR_at hf.x.2) hm3 hJ.1.tb hJ.2 (hall c (List.mem_of_getElem? hc))
    rw [← eQ] at this
    refine this.mono ?_
    rintro e w3 ⟨a4, c4, es4, q1, rfl, q2, q3, q4, q5, q6⟩
    refine ⟨_, _, ⟨a4, c4, es4, q1, q3, fun q hq => Nat.le_trans hf.chg.size (q5 q hq), rfl, rfl⟩, by kernel_rfl, q2.trans (Eq.trans (b := some (.cells (imC ⟨Q.i.ep, G.mem, Q.i.sl, Q.i.regs, Q.i.tb⟩ x1 y1 a4 c4).toArray 28 (0, 0))) (by unfold imC; rw [hQm]) (by kernel_rfl)), q4, fun q hq => ⟨.inr (q5 q hq), tabR_lt q4 q hq⟩, chg_of_grown (.inl rfl) q6⟩
  · rintro vs h' ⟨a4, c4, es4, _, _, _, rfl, rfl⟩
    exact ⟨by kernel_rfl, oneNil⟩
  rintro vs h' ⟨a4, c4, es4, hm4, hdj4, hn4, rfl, rfl⟩ hap4
  refine holds_eq (HX.and_right_comm _ _ _) ?_
  refine node_pushs (z := .agg #[.int .i64 0, .int .i64 0, .int .i64 0, .int .i64 0, .int .i64 0]) (sz := 5) (bytes := 40) rfl (by kernel_rfl) info_ans rfl (by decide) oa k oc (ancells J.2) (AnD.cells ⟨c.sess, c.seq, Q.k, Q.re, Q.im⟩) 4 (by intros; kernel_rfl) (by intros; kernel_rfl) rfl (by intros; kernel_rfl) rfl (an_one _) (fun q h1 h2 hF => ?_) (fun q h1 h2 => .inl (ho3 q ⟨h1, h2⟩).1) (by simp [maxLen]; omega) (by omega) (by intros; kernel_rfl) (by kernel_rfl) (by kernel_rfl) (by intros; kernel_rfl) ?_
  · rcases hF with hF | hF
    · exact (ho3 q ⟨h1, h2⟩).2 hF
    · exact (hap4 q hF).1 (.inr ⟨h1, h2⟩)
  intro oa' oc' hoc hdis hwh
  have hstep : runAll G (v.cs.take (k + 1)) = (Q.i, J.2 ++ [⟨c.sess, c.seq, Q.k, Q.re, Q.im⟩]) := by rw [runAll_step G hc, ← eJ, eQ]; rfl
  have hwk : IntKind.i64.wrap ((k : Int) + 1) = ((k + 1 : Nat) : Int) := by rw [wrap_i64 (by omega)]; omega
  rw [ancells_snoc]
  refine again_V ⟨((k + 1 : Nat) : Int) :: imI Q.i, [], [], [k + 1, oc', G.mem.length, y1, Q.i.tb.length, c4], [oa', x1, a4]⟩ rfl (fun ids => Eq.trans (b := ⟨IntKind.i64.wrap ((k : Int) + 1) :: imI Q.i, [], [], [k + 1, oc', G.mem.length, y1, Q.i.tb.length, c4], [oa', x1, a4]⟩) (by kernel_rfl) (by rw [hwk])) (((HX.cl x1 (G.mem.map (Value.int .i64))).and (HX.rw 5 56 oa' (k + 1) oc' (ancells (J.2 ++ [⟨c.sess, c.seq, Q.k, Q.re, Q.im⟩])))).and (tabR a4 c4 es4)) (fun w2 ids hf => ?_) ⟨⟨k + 1, a4, c4, es4, oa', oc', hlt, by rw [hstep]; exact hm4, hdj4, fun q hq => ⟨hn4 q hq, ?_⟩, fun q hq => ⟨?_, ?_⟩, by rw [hstep], by rw [hstep]⟩, ?_⟩
  · exact ⟨⟨⟨hf.x.1.1, hf.x.2⟩, hf.x.1.2⟩, fun q hq => hf.sep q (hq.elim (fun z => z.elim (fun z => .inl (.inl z)) .inr) (fun z => .inl (.inr z)))⟩
  · rw [hstep]
    rintro (z | z)
    · exact (hap4 q hq).1 (.inl z)
    · exact hdis q z.2 (.inr hq)
  · rw [hstep] at hq
    rcases hwh with ⟨z1, z2⟩ | ⟨g, z1, z2, z3⟩
    · exact (ho3 q ⟨z1, by rw [← z2]; exact hq.2⟩).1
    · rw [hq.2] at z1; cases z1; exact z2
  · rw [hstep] at hq
    exact fun z => hdis q hq.2 (.inl z)
  · show v.cs.length - (((k + 1 : Nat) : Int)).toNat < v.cs.length - ((k : Int)).toNat
    omega
end Go.Proofs.Ytfjiolgdcphjhaa

namespace Go.Proofs.Ytfjiolgdcphjhaa
open Go.ChangeShapes Go.WideShapes Go.ChangeAt Go.RowKit Go.Syn Go.Eng
set_option linter.unusedVariables false
set_option linter.unusedSimpArgs false
set_option maxRecDepth 100000
def regEq (r s : List Int) : Bool :=
  ((rg r 0 == rg s 0) && (rg r 1 == rg s 1)) && (((rg r 2 == rg s 2) && (rg r 3 == rg s 3)) && (((rg r 4 == rg s 4) && (rg r 5 == rg s 5)) && (((rg r 6 == rg s 6) && (rg r 7 == rg s 7)) && (((rg r 8 == rg s 8) && (rg r 9 == rg s 9)) && (((rg r 10 == rg s 10) && (rg r 11 == rg s 11)) && (((rg r 12 == rg s 12) && (rg r 13 == rg s 13)) && ((rg r 14 == rg s 14) && (rg r 15 == rg s 15))))))))
theorem regEq_refl (r : List Int) : regEq r r = true := by unfold regEq; simp
def hv1 : Vl := ⟨1, [⟨9, 1, 0, ⟨2, 0, 0, 2, 1⟩⟩], []⟩
def hv3 : Vl := ⟨2, [], [2, 4]⟩
def hi0 : Im := ⟨0, [1, 2, 3], 0, im0.regs, []⟩
def hr1 : ExR := ⟨⟨0, [1, 2, 3], 1, [2, 1, 0, 0, 0, 0, 0, 0, 0, 0, 0, 0, 0, 0, 0, 0], [⟨9, 0, [⟨1, 1, 2, 1⟩]⟩]⟩, [⟨9, 1, 1, 2, 1⟩], 0⟩
def hr2 : ExR := ⟨⟨0, [1, 2, 3], 2, [2, 1, 0, 0, 0, 0, 0, 0, 0, 0, 0, 0, 0, 0, 0, 0], [⟨9, 0, [⟨1, 1, 2, 1⟩]⟩]⟩, [⟨9, 1, 1, 2, 1⟩], 0⟩
def hr3 : ExR := ⟨⟨1, [2, 4], 3, [2, 1, 0, 0, 0, 0, 0, 0, 0, 0, 0, 0, 0, 0, 0, 0], [⟨9, 0, [⟨1, 1, 2, 1⟩]⟩]⟩, [], 0⟩
theorem hr1_eq : execV hi0 1 hv1 = hr1 := by kernel_rfl
theorem hr2_eq : execV hr1.i 2 hv1 = hr2 := by kernel_rfl
theorem hr3_eq : execV hr2.i 3 hv3 = hr3 := by kernel_rfl
end Go.Proofs.Ytfjiolgdcphjhaa

namespace Go.Proofs.Ytfjiolgdcphjhaa
open Go.ChangeShapes Go.WideShapes Go.ChangeAt Go.RowKit Go.Syn Go.Eng
set_option linter.unusedVariables false
set_option linter.unusedSimpArgs false
set_option maxRecDepth 100000
theorem xone_any (w : World) : Calls Try.prog 32 #[] w (VlNew w id hv1) := by
  refine calls_at (tab_ok _) Try.func32 rfl tXOne (ρ := ⟨[], [], [], [], []⟩) (ids := []) (hx := HX.nil) rfl (Facts.initP rfl oneNil) ?_
  intro ids w2 hp hf
  refine ⟨some ⟨idAt ids 1, 0, none⟩, 1, none, 0, by kernel_rfl, ⟨blk_cells (ty := 52) ((hf.blkAt 1 rfl).trans (by kernel_rfl)), cl_nil _ _⟩, ?_, hf.chg.below⟩
  rintro k (hk | hk)
  · have : k = idAt ids 1 := hk.2
    rw [this]
    exact (hf.own _ (idAt_mem (by rw [hf.len]; decide))).resolve_right (fun e => e)
  · exact absurd rfl hk.1
theorem hv1_fit : VlFit hv1 := ⟨(by unfold hv1; intro n hn; cases hn), by decide, by decide⟩
theorem hi0_fit : ImFit hi0 := ⟨(by unfold hi0 I64; decide), by decide, rfl⟩
theorem hr1_fit : ImFit hr1.i := ⟨(by unfold hr1 I64; decide), by decide, rfl⟩
theorem hr2_fit : ImFit hr2.i := ⟨(by unfold hr2 I64; decide), by decide, rfl⟩
theorem es_len {es : List SE} {t : List SsD} (h : es.map SE.s = t) : es.length = t.length := by rw [← h, List.length_map]
set_option maxHeartbeats 2000000 in
theorem head20_any (w : World) : Calls Try.prog 9 #[] w (PureAt w (.bool true)) := by
  refine calls_at (tab_ok _) Try.func9 rfl tXHead (ρ := ⟨[], [], [], [], []⟩) (ids := []) (hx := HX.nil) rfl (Facts.initP rfl oneNil) ?_
  refine node_im (V := id) (I := hi0) (fun ids => #[.slice (some ⟨idAt ids 0, 0, none⟩) 3 3]) (fun x1 y1 x2 y2 => ⟨imI hi0, [], [], [3, y1, 0, y2], [x1, x2]⟩) (by intros; kernel_rfl) (fun ids w2 hp hf => xfirst_any _ 3 [1, 2, 3] w2 (ints_blk hf 0 3 [.int .i64 (.lit 1), .int .i64 (.lit 2), .int .i64 (.lit 3)] [1, 2, 3] rfl (by kernel_rfl) (by decide) (by unfold I64; decide)) (by decide)) (by intros; kernel_rfl) (by kernel_rfl) (by kernel_rfl) (by intros; kernel_rfl) (fun _ _ _ _ => oneNil) ?_
  intro x1 y1 x2 y2 es0 hm0 hdj0 hsm0 had0 hn0
  refine node_vl (V := id) (v := hv1) (fun _ => #[]) (fun b1 d1 b2 d2 => ⟨[1], [], [], [1, d1, 0, d2], [b1, b2]⟩) (by intros; kernel_rfl) (fun ids w2 hp hf => xone_any w2) (by intros; kernel_rfl) (by kernel_rfl) (by kernel_rfl) (by intros; kernel_rfl) (fun _ _ _ _ => oneNil) ?_
  intro b1 d1 b2 d2 hb1
  refine node_ex (R := hr1) (fun _ => #[imV hi0 x1 y1 x2 y2, .int .i64 1, vlV hv1 b1 d1 b2 d2]) (by intros; kernel_rfl) (fun ids w2 hp hf => hr1_eq ▸ xexec_any hi0 x1 y1 x2 y2 es0 1 hv1 b1 d1 b2 d2 w2 (hi0_fit.at_ hm0 hf.x.1.2) (by rw [es_len hm0]; decide) (by decide) (hv1_fit.at_ hf.x.2)) (by intros; kernel_rfl) (by kernel_rfl) (by kernel_rfl) (by intros; kernel_rfl) ?_
  intro p1 q1 p2 q2 es1 oa1 oc1 hm1 hdj1 hsm1 hso1 hn1
  refine par_i ?_ ?_
  all_goals
    refine node_vl (V := id) (v := hv1) (fun _ => #[]) (fun b1 d1 b2 d2 => ⟨[1], [], [], [1, d1, 0, d2], [b1, b2]⟩) (by intros; kernel_rfl) (fun ids w2 hp hf => xone_any w2) (by intros; kernel_rfl) (by kernel_rfl) (by kernel_rfl) (by intros; kernel_rfl) (fun _ _ _ _ => oneNil) ?_
    intro e1 f1 e2 f2 he1
    try refine par_i ?_ ?_
  all_goals
    refine node_ex (R := hr2) (fun _ => #[imV hr1.i p1 q1 p2 q2, .int .i64 2, vlV hv1 e1 f1 e2 f2]) (by intros; kernel_rfl) (fun ids w2 hp hf => hr2_eq ▸ xexec_any hr1.i p1 q1 p2 q2 es1 2 hv1 e1 f1 e2 f2 w2 (hr1_fit.at_ hm1 hf.x.1.2.1) (by rw [es_len hm1]; decide) (by decide) (hv1_fit.at_ hf.x.2)) (by intros; kernel_rfl) (by kernel_rfl) (by kernel_rfl) (by intros; kernel_rfl) ?_
    intro g1 h1 g2 h2 es2 oa2 oc2 hm2 hdj2 hsm2 hso2 hn2
    refine node_ex (R := hr3) (fun ids => #[imV hr2.i g1 h1 g2 h2, .int .i64 3, vlV hv3 none 0 (some ⟨idAt ids 3, 0, none⟩) 2]) (by intros; kernel_rfl) (fun ids w2 hp hf => hr3_eq ▸ xexec_any hr2.i g1 h1 g2 h2 es2 3 hv3 none 0 (some ⟨idAt ids 3, 0, none⟩) 2 w2 (hr2_fit.at_ hm2 hf.x.2.1) (by rw [es_len hm2]; decide) (by decide) ⟨cl_nil _ _, ints_blk hf 3 3 [.int .i64 (.lit 2), .int .i64 (.lit 4)] [2, 4] rfl (by kernel_rfl) (by decide) (by unfold I64; decide), by decide, by decide⟩) (by intros; kernel_rfl) (by kernel_rfl) (by kernel_rfl) (by intros; kernel_rfl) ?_
    intro k1 l1 k2 l2 es3 oa3 oc3 hm3 hdj3 hsm3 hso3 hn3
    refine br_t (by kernel_rfl) ?_
    refine br_t (by kernel_rfl) ?_
    refine br_t (by kernel_rfl) ?_
    refine br_t (by kernel_rfl) ?_
    refine need_k (oa1.isSome = true ∧ (0 : Int) ≤ 0 ∧ (0 : Int) < 1) (by kernel_rfl) ⟨hso1 (by unfold hr1; simp), by decide, by decide⟩ ?_
    refine node_ldk ⟨[9, 1, 1, 2, 1], [], [], [], []⟩ (fun _ => .pointer (some (((oa1.getD ⟨0, 0, none⟩).add (0 * 5)).add 0))) (AnD.cells ⟨9, 1, 1, 2, 1⟩) (by intros; kernel_rfl) (by intros; kernel_rfl) (fun ids w2 hp hf => an_all (l := hr1.an) 0 rfl hf.x.1.1.1.2.2) (by kernel_rfl) oneNil ?_
    refine br_t (by kernel_rfl) ?_
    refine br_t (by kernel_rfl) ?_
    refine need_k (oa2.isSome = true ∧ (0 : Int) ≤ 0 ∧ (0 : Int) < 1) (by kernel_rfl) ⟨hso2 (by unfold hr2; simp), by decide, by decide⟩ ?_
    refine node_ldk ⟨[9, 1, 1, 2, 1], [], [], [], []⟩ (fun _ => .pointer (some (((oa2.getD ⟨0, 0, none⟩).add (0 * 5)).add 0))) (AnD.cells ⟨9, 1, 1, 2, 1⟩) (by intros; kernel_rfl) (by intros; kernel_rfl) (fun ids w2 hp hf => an_all (l := hr2.an) 0 rfl hf.x.1.2.2) (by kernel_rfl) oneNil ?_
    refine br_t (by kernel_rfl) ?_
    refine br_t (by kernel_rfl) ?_
    refine br_t (by kernel_rfl) ?_
    refine node_PI ⟨[], [true], [], [], []⟩ (fun ids => #[.slice k1 2 l1, .slice (some ⟨idAt ids 6, 0, none⟩) 2 2]) (.bool true) (by intros; kernel_rfl) (by intros; kernel_rfl) (by kernel_rfl) (by kernel_rfl) (by kernel_rfl) oneNil (fun ids w2 hp hf => intsB_any k1 l1 [2, 4] (some ⟨idAt ids 6, 0, none⟩) 2 [2, 4] w2 (Ints.of_cells (by decide) (by unfold I64; decide) hf.x.2.1.1) (ints_blk hf 6 3 [.int .i64 (.lit 2), .int .i64 (.lit 4)] [2, 4] rfl (by kernel_rfl) (by decide) (by unfold I64; decide)) (by decide)) ?_
    refine br_t (by kernel_rfl) ?_
    exact pure_done (by intros; kernel_rfl)
end Go.Proofs.Ytfjiolgdcphjhaa

namespace Go.Proofs.Ytfjiolgdcphjhaa
open Go.ChangeShapes Go.WideShapes Go.ChangeAt Go.RowKit Go.Syn Go.Eng
set_option linter.unusedVariables false
set_option linter.unusedSimpArgs false
set_option maxRecDepth 100000
structure Pv where
  v : Vl
  a1 : Option Addr
  c1 : Nat
  a2 : Option Addr
  c2 : Nat
def Pv.cells (p : Pv) : List Value := [.int .i64 p.v.k, .slice p.a1 p.v.cs.length p.c1, .slice p.a2 p.v.ns.length p.c2]
def qcs (xs : List Pv) : List Value := xs.flatMap Pv.cells
theorem qcs_len (p : Pv) : p.cells.length = 3 := rfl
theorem opn_pv {w : World} {d : Dat} (h : d.In Try.prog w 37) : ∃ p : Pv, d.cells = p.cells ∧ VlAt w p.v p.a1 p.a2 ∧ ∀ c ∈ p.v.cs, CmFit c := by
  obtain ⟨v, a1, c1, a2, c2, e, H, _, hc⟩ := opn_vl h
  exact ⟨⟨v, a1, c1, a2, c2⟩, e, H, hc⟩
theorem opn_pvs {w : World} : ∀ (ds : List Dat), (∀ d ∈ ds, d.In Try.prog w 37) → ∃ xs : List Pv, xs.length = ds.length ∧ Dat.cellsAll ds = qcs xs ∧ ∀ p ∈ xs, VlAt w p.v p.a1 p.a2 ∧ ∀ c ∈ p.v.cs, CmFit c
  | [], _ => ⟨[], rfl, rfl, fun o h => by cases h⟩
  | d :: r, h => by
    obtain ⟨o, e, ho⟩ := opn_pv (h d (List.mem_cons_self))
    obtain ⟨os, e1, e2, hos⟩ := opn_pvs r fun x hx => h x (List.mem_cons_of_mem _ hx)
    refine ⟨o :: os, by simp [e1], ?_, fun x hx => ?_⟩
    · show d.cells ++ Dat.cellsAll r = o.cells ++ qcs os
      rw [e, e2]
    · rcases List.mem_cons.1 hx with rfl | hx
      · exact ho
      · exact hos x hx
theorem pv_part {w : World} {a : Option Addr} {xs : List Pv} {p : Pv} (h : Cells w a (qcs xs)) (i o : Nat) (us : List Value) (hi : xs[i]? = some p) (hu : ∀ j u, us[j]? = some u → p.cells[o + j]? = some u) (h0 : us ≠ []) : a.isSome = true ∧ CellsAt w (.pointer (some (((a.getD ⟨0, 0, none⟩).add (i * 3)).add o))) us (fun _ => False) := by
  obtain ⟨h1, h2⟩ := flat_part qcs_len h hi (o := o) us hu h0
  exact ⟨h1, h2 _ id⟩
theorem pv_all {w : World} {a : Option Addr} {xs : List Pv} {p : Pv} (h : Cells w a (qcs xs)) (i : Nat) (hi : xs[i]? = some p) : CellsAt w (.pointer (some (((a.getD ⟨0, 0, none⟩).add (i * 3)).add 0))) p.cells (fun _ => False) :=
  (pv_part h i 0 p.cells hi (fun j u hj => by rw [Nat.zero_add]; exact hj) (by simp [Pv.cells])).2
theorem pv_one {w : World} {a : Option Addr} {xs : List Pv} {p : Pv} (h : Cells w a (qcs xs)) (i o : Nat) (u : Value) (hi : xs[i]? = some p) (hu : p.cells[o]? = some u) : CellsAt w (.pointer (some (((a.getD ⟨0, 0, none⟩).add (i * 3)).add o))) [u] (fun _ => False) :=
  (pv_part h i o [u] hi (at1 hu) (by simp)).2
def imOk (I : Im) : Prop := VI I ∧ I.regs.length = 16 ∧ ∀ x ∈ I.mem, I64 x
theorem imOk.fit {I : Im} (h : imOk I) : ImFit I := ⟨h.2.2, by have := h.1.fit.1; omega, h.2.1⟩
theorem goI_ok {I : Im} (h : imOk I) {slot : Int} {v : Vl} (hs : slot = I.sl + 1) (hs2 : slot ≤ 1099511627776) (he : v.k = 2 → I.ep < 1099511627776) (hz : valE v = 0) (hn : ∀ x ∈ v.ns, I64 x) : imOk (goI I slot v) := by
  have h0 := h.1.sl0
  have e0 := h.1.ep0
  unfold goI
  split
  · rename_i k2
    have hm : setOkB v.ns = true := by
      rcases valE_zero hz with q | q | q
      · omega
      · exact q.2.2
      · omega
    exact ⟨⟨by show 0 ≤ I.ep + 1; omega, by have := he k2; show I.ep + 1 ≤ _; omega, by show 0 ≤ slot; omega, hs2, hm, h.1.regs, h.1.tb⟩, h.2.1, hn⟩
  · exact ⟨⟨e0, h.1.ep1, by show 0 ≤ slot; omega, hs2, h.1.mem, h.1.regs, h.1.tb⟩, h.2.1, h.2.2⟩
theorem runAll_ok {I : Im} (h : imOk I) {cs : List CmD} (hc : ∀ c ∈ cs, cmdV c = 0) : imOk (runAll I cs).1 := by
  obtain ⟨h1, h2⟩ := h.1.all h.2.1 hc cs.length
  rw [List.take_length] at h1 h2
  exact ⟨h1, h2, by have := (runAll_keep I cs (I, [])).1; show ∀ x ∈ (cs.foldl stepV (I, [])).1.mem, I64 x; rw [this]; exact h.2.2⟩
theorem cs_ok {v : Vl} (hz : valE v = 0) : ∀ c ∈ v.cs, cmdV c = 0 := by
  rcases valE_zero hz with q | q | q
  · rw [q.2.1]; intro c hc; cases hc
  · rw [q.2.1]; intro c hc; cases hc
  · exact firstE_all q.2.2.2.2
theorem exec_eq {I : Im} (h : VI I) {slot : Int} {v : Vl} (hs : slot = I.sl + 1) (hs2 : slot ≤ 1099511627776) (he : v.k = 2 → I.ep < 1099511627776) : execV I slot v = if valE v ≠ 0 then ⟨im0, [], valE v⟩ else ⟨(runAll (goI I slot v) v.cs).1, (runAll (goI I slot v) v.cs).2, 0⟩ := by
  unfold execV
  rw [if_neg (by rw [(validI_iff I).2 h]; decide), if_neg]
  rintro (q | q | ⟨q1, q2⟩)
  · exact q hs
  · omega
  · have := he q1; omega
structure ExecOk (I : Im) (slot : Int) (v : Vl) (R : ExR) : Prop where
  e : R.e = 0
  i : R.i = (runAll (goI I slot v) v.cs).1
  an : R.an = (runAll (goI I slot v) v.cs).2
  ok : imOk R.i
  sl : R.i.sl = slot
  mem : R.i.mem = if v.k = 2 then v.ns else I.mem
  ep : R.i.ep = if v.k = 2 then I.ep + 1 else I.ep
  len : R.an.length = v.cs.length
  rest : v.cs = [] → R.i.regs = I.regs ∧ R.i.tb = I.tb
theorem exec_ok {I : Im} (h : imOk I) {slot : Int} {v : Vl} (hs : slot = I.sl + 1) (hs2 : slot ≤ 1099511627776) (he : v.k = 2 → I.ep < 1099511627776) (hz : valE v = 0) (hn : ∀ x ∈ v.ns, I64 x) : ExecOk I slot v (execV I slot v) := by
  rw [exec_eq h.1 hs hs2 he, if_neg (fun q => q hz)]
  have hk := runAll_keep (goI I slot v) v.cs (goI I slot v, [])
  refine ⟨rfl, rfl, rfl, runAll_ok (goI_ok h hs hs2 he hz hn) (cs_ok hz), hk.2.2.1.trans ?_, hk.1.trans ?_, hk.2.1.trans ?_, (hk.2.2.2).trans (by simp), fun hc => ?_⟩
  · show (goI I slot v).sl = slot
    unfold goI; split <;> rfl
  · show (goI I slot v).mem = _
    unfold goI; split <;> rfl
  · show (goI I slot v).ep = _
    unfold goI; split <;> rfl
  · rw [hc]
    show (goI I slot v).regs = _ ∧ (goI I slot v).tb = _
    unfold goI; split <;> exact ⟨rfl, rfl⟩
end Go.Proofs.Ytfjiolgdcphjhaa

namespace Go.Proofs.Ytfjiolgdcphjhaa
open Go.Eng Go.Syn
set_option linter.unusedVariables false
set_option linter.unusedSimpArgs false
def sameC (x c : CmD) : Prop := x.sess = c.sess ∧ x.seq = c.seq
structure XInv (t : List SsD) (ran : List CmD) : Prop where
  vt : VT t
  a : ∀ c ∈ ran, ∃ s ∈ t, s.no = c.sess ∧ (c.seq ≤ s.ack ∨ ∃ k ∈ s.kept, k.seq = c.seq)
  b : ∀ s ∈ t, ∀ k ∈ s.kept, ∃ c ∈ ran, c.sess = s.no ∧ c.seq = k.seq
theorem XInv.nil : XInv [] [] := ⟨VT.nil, fun c h => (by cases h), fun s hs => (by cases hs)⟩
theorem nos_inj {t : List SsD} (h : Rise (nosT t)) {s s' : SsD} (h1 : s ∈ t) (h2 : s' ∈ t) (e : s.no = s'.no) : s = s' := by
  obtain ⟨i, hi⟩ := List.mem_iff_getElem?.1 h1
  obtain ⟨j, hj⟩ := List.mem_iff_getElem?.1 h2
  have g1 : (nosT t)[i]? = some s.no := by unfold nosT; rw [List.getElem?_map, hi]; rfl
  have g2 : (nosT t)[j]? = some s'.no := by unfold nosT; rw [List.getElem?_map, hj]; rfl
  rcases Nat.lt_trichotomy i j with q | q | q
  · have := h i j _ _ q g1 g2; omega
  · subst q; rw [hi] at hj; cases hj; rfl
  · have := h j i _ _ q g2 g1; omega
theorem mem_set_ne {α : Type} {T : List α} {i : Nat} {s u x : α} (hs : T[i]? = some s) (hx : x ∈ T) (hne : x ≠ s) : x ∈ T.set i u := by
  obtain ⟨j, hj⟩ := List.mem_iff_getElem?.1 hx
  have hij : i ≠ j := fun q => by subst q; rw [hs] at hj; cases hj; exact hne rfl
  exact List.mem_iff_getElem?.2 ⟨j, by rw [List.getElem?_set_ne hij]; exact hj⟩
theorem mem_set_at {α : Type} {T : List α} {i : Nat} {s u : α} (hs : T[i]? = some s) : u ∈ T.set i u :=
  List.mem_iff_getElem?.2 ⟨i, List.getElem?_set_self (List.getElem?_eq_some_iff.1 hs).1⟩
theorem tab_mem {t : List SsD} {sess : Int} {x : SsD} (h : x ∈ tabS t sess) : x ∈ t ∨ x = ⟨sess, 0, []⟩ := by
  unfold tabS at h
  split at h
  · exact .inl h
  · exact insAt_mem.1 h
theorem mem_tab {t : List SsD} {sess : Int} {x : SsD} (h : x ∈ t) : x ∈ tabS t sess := by
  unfold tabS
  split
  · exact h
  · exact insAt_mem.2 (.inl h)
theorem XInv.upd {t : List SsD} {ran : List CmD} (I : XInv t ran) {sess ack : Int} (h1 : 1 ≤ sess) (h2 : sess ≤ 1073741824) (h3 : ack ≤ 1099511627776) (hn : ¬ (hitI (nosT t) sess = false ∧ 16 ≤ t.length)) {s : SsD}
    (hs : (tabS t sess)[posI (nosT t) sess]? = some s) (hsn : s.no = sess) : XInv ((tabS t sess).set (posI (nosT t) sess) (updS ack s)) ran := by
  have hT := I.vt.tab h1 h2 hn
  refine ⟨hT.set hs rfl ((hT.each s (List.mem_of_getElem? hs)).upd h3), fun c hc => ?_, fun x hx k hk => ?_⟩
  · obtain ⟨s0, g1, g2, g3⟩ := I.a c hc
    by_cases e : s0 = s
    · subst e
      refine ⟨updS ack s0, mem_set_at hs, g2, ?_⟩
      rcases g3 with g3 | ⟨k, k1, k2⟩
      · exact .inl (by show c.seq ≤ max s0.ack ack; omega)
      · by_cases hl : max s0.ack ack < k.seq
        · exact .inr ⟨k, List.mem_filter.2 ⟨k1, decide_eq_true hl⟩, k2⟩
        · exact .inl (by show c.seq ≤ max s0.ack ack; omega)
    · exact ⟨s0, mem_set_ne hs (mem_tab g1) e, g2, g3⟩
  · rcases List.mem_or_eq_of_mem_set hx with hx | hx
    · rcases tab_mem hx with hx | hx
      · exact I.b x hx k hk
      · subst hx; cases hk
    · subst hx
      have hk2 : k ∈ s.kept := (List.mem_filter.1 hk).1
      rcases tab_mem (List.mem_of_getElem? hs) with q | q
      · exact I.b s q k hk2
      · rw [q] at hk2; cases hk2
theorem XInv.ask {t : List SsD} {ran : List CmD} (I : XInv t ran) (c : CmD) (h1 : 1 ≤ c.sess) (h2 : c.sess ≤ 1073741824) (h3 : c.ack ≤ 1099511627776) (h4 : c.seq ≤ 1099511627776) :
    XInv (askV t c.sess c.seq c.ack).t ran ∧
    ((askV t c.sess c.seq c.ack).d = true → ((askV t c.sess c.seq c.ack).k = 4 ∨ (askV t c.sess c.seq c.ack).k = 5 ∨ (askV t c.sess c.seq c.ack).k = 6) ∨ ∃ x ∈ ran, sameC x c) ∧
    ((askV t c.sess c.seq c.ack).d = false → (∀ x ∈ ran, ¬ sameC x c) ∧ ∀ k re im : Int, 1 ≤ k → k ≤ 3 → XInv (keepV (askV t c.sess c.seq c.ack).t c.sess c.seq k re im) (ran ++ [c])) := by
  rcases ask_cases t c.sess c.seq c.ack with ⟨hh, hf, e⟩ | ⟨hn, s, hs, hsn, hs1, hs2, e⟩
  · rw [e]
    exact ⟨I, fun _ => .inl (.inr (.inl rfl)), fun q => by cases q⟩
  · have I2 := I.upd (ack := c.ack) h1 h2 h3 hn hs hsn
    obtain ⟨u, eu⟩ : ∃ u, u = updS c.ack s := ⟨_, rfl⟩
    rw [e]
    rw [← eu] at I2 ⊢
    have hun : u.no = c.sess := by rw [eu]; exact hsn
    obtain ⟨t2, et2⟩ : ∃ t2, t2 = (tabS t c.sess).set (posI (nosT t) c.sess) u := ⟨_, rfl⟩
    rw [← et2] at I2 ⊢
    have hu2 : u ∈ t2 := by rw [et2]; exact mem_set_at hs
    have huv := I2.vt.each u hu2
    refine ⟨by rw [askS_t]; exact I2, ?_⟩
    unfold askS
    by_cases hst : c.seq ≤ u.ack
    · rw [if_pos hst]
      exact ⟨fun _ => .inl (.inl rfl), fun q => by cases q⟩
    rw [if_neg hst]
    rcases Bool.eq_false_or_eq_true (hitI (seqsK u.kept) c.seq) with hk | hk
    · rw [if_pos hk]
      have h5 : (u.kept.map KpD.seq)[posI (seqsK u.kept) c.seq]? = some c.seq := hit_iff.1 hk
      rw [List.getElem?_map] at h5
      cases h6 : u.kept[posI (seqsK u.kept) c.seq]? with
      | none => rw [h6] at h5; cases h5
      | some k =>
        rw [h6] at h5
        simp only [Option.map_some, Option.some.injEq] at h5
        dsimp only
        obtain ⟨x, b2, b3, b4⟩ := I2.b u hu2 k (List.mem_of_getElem? h6)
        exact ⟨fun _ => .inr ⟨x, b2, by rw [b3, hun], by rw [b4, h5]⟩, fun q => by cases q⟩
    rw [if_neg (by rw [hk]; decide)]
    have no : ∀ x ∈ ran, ¬ sameC x c := fun x hx hsm => by
      obtain ⟨s0, g1, g2, g3⟩ := I2.a x hx
      have : s0 = u := nos_inj I2.vt.nos g1 hu2 (by rw [g2, hun]; exact hsm.1)
      subst this
      rcases g3 with g3 | ⟨k, k1, k2⟩
      · exact hst (by rw [← hsm.2]; exact g3)
      · have : c.seq ∈ seqsK s0.kept := by rw [← hsm.2, ← k2]; exact List.mem_map_of_mem k1
        have := (hit_mem huv.seqs).2 this
        rw [hk] at this; cases this
    by_cases h8 : 8 ≤ u.kept.length
    · rw [if_pos h8]
      exact ⟨fun _ => .inl (.inr (.inr rfl)), fun q => by cases q⟩
    rw [if_neg h8]
    refine ⟨fun q => Bool.noConfusion q, fun _ => ⟨no, fun kk re im q1 q2 => ?_⟩⟩
    dsimp only
    -- the reply is kept
    have hit2 : hitI (nosT t2) c.sess = true := (hit_mem I2.vt.nos).2 (by rw [← hun]; exact List.mem_map_of_mem hu2)
    obtain ⟨s', p1, p2, p3, _⟩ := tabS_at t2 c.sess
    have p4 := p3 hit2
    have : s' = u := nos_inj I2.vt.nos (List.mem_of_getElem? p4) hu2 (by rw [p2, hun])
    subst this
    have hvk := I2.vt.keep (sess := c.sess) (seq := c.seq) (k := kk) (re := re) (im := im) h4 q1 q2
    have hkv : keepV t2 c.sess c.seq kk re im = t2.set (posI (nosT t2) c.sess) ⟨s'.no, s'.ack, insAt s'.kept (posI (seqsK s'.kept) c.seq) ⟨c.seq, kk, re, im⟩⟩ := by
      unfold keepV
      rw [if_neg (by rw [hit2]; decide), p4]
      dsimp only
      rw [if_neg (by rw [hk]; rintro (q | q | q) <;> first | cases q | omega)]
    rw [hkv] at hvk ⊢
    refine ⟨hvk, fun x hx => ?_, fun x hx k hk2 => ?_⟩
    · rcases List.mem_append.1 hx with hx | hx
      · obtain ⟨s0, g1, g2, g3⟩ := I2.a x hx
        by_cases e2 : s0 = s'
        · subst e2
          exact ⟨_, mem_set_at p4, g2, g3.imp id fun ⟨k, k1, k2⟩ => ⟨k, insAt_mem.2 (.inl k1), k2⟩⟩
        · exact ⟨s0, mem_set_ne p4 g1 e2, g2, g3⟩
      · rw [List.mem_singleton.1 hx]
        exact ⟨_, mem_set_at p4, p2, .inr ⟨⟨c.seq, kk, re, im⟩, insAt_mem.2 (.inr rfl), rfl⟩⟩
    · rcases List.mem_or_eq_of_mem_set hx with hx | hx
      · obtain ⟨y, b2, b3⟩ := I2.b x hx k hk2
        exact ⟨y, List.mem_append_left _ b2, b3⟩
      · subst hx
        rcases insAt_mem.1 hk2 with hk3 | hk3
        · obtain ⟨y, b2, b3⟩ := I2.b s' hu2 k hk3
          exact ⟨y, List.mem_append_left _ b2, b3⟩
        · subst hk3
          exact ⟨c, List.mem_append_right _ (List.mem_singleton.2 rfl), p2.symm, rfl⟩
theorem XInv.run {I : Im} {ran : List CmD} (h : XInv I.tb ran) (hr : validL I.regs = true) {c : CmD} (hc : cmdV c = 0) :
    ((runV I c).i.regs = I.regs ∧ XInv (runV I c).i.tb ran ∧ (((runV I c).k = 4 ∨ (runV I c).k = 5 ∨ (runV I c).k = 6) ∨ ∃ x ∈ ran, sameC x c)) ∨
    ((runV I c).i.regs = (applyM I.regs c.op).1 ∧ XInv (runV I c).i.tb (ran ++ [c]) ∧ (∀ x ∈ ran, ¬ sameC x c) ∧ (runV I c).k ≤ 3 ∧ (runV I c).k = (applyM I.regs c.op).2.1 ∧ (runV I c).re = (applyM I.regs c.op).2.2.1 ∧ (runV I c).im = (applyM I.regs c.op).2.2.2) := by
  obtain ⟨c1, c2, c3, c4, c5, c6, c7⟩ := opB_of hc
  obtain ⟨q1, q2, q3⟩ := h.ask c c1 c2 (by omega) c4
  unfold runV
  rcases Bool.eq_false_or_eq_true (askV I.tb c.sess c.seq c.ack).d with hd | hd
  · rw [if_pos hd]
    exact .inl ⟨rfl, q1, q2 hd⟩
  · rw [if_neg (by rw [hd]; decide)]
    obtain ⟨k1, k2⟩ := apply_kind hr c7
    exact .inr ⟨rfl, (q3 hd).2 _ _ _ k1 k2, (q3 hd).1, k2, rfl, rfl, rfl⟩
theorem runAll_more (I : Im) (cs : List CmD) : ∀ (p : Im × List AnD) (n : Nat) (x : AnD), p.2[n]? = some x → (cs.foldl stepV p).2[n]? = some x := by
  induction cs with
  | nil => intro p n x h; exact h
  | cons c r ih =>
    intro p n x h
    refine ih (stepV p c) n x ?_
    unfold stepV
    rw [List.getElem?_append_left (List.getElem?_eq_some_iff.1 h).1]; exact h
theorem runAll_get (I : Im) {cs : List CmD} {n : Nat} {c : CmD} (h : cs[n]? = some c) : (runAll I cs).2[n]? = some ⟨c.sess, c.seq, (runV (runAll I (cs.take n)).1 c).k, (runV (runAll I (cs.take n)).1 c).re, (runV (runAll I (cs.take n)).1 c).im⟩ := by
  have hn : n < cs.length := (List.getElem?_eq_some_iff.1 h).1
  have e : cs = cs.take (n + 1) ++ cs.drop (n + 1) := (List.take_append_drop _ _).symm
  have e1 : runAll I cs = (cs.drop (n + 1)).foldl stepV (runAll I (cs.take (n + 1))) := by
    unfold runAll
    rw [← List.foldl_append, List.take_append_drop]
  rw [e1]
  refine runAll_more I _ _ _ _ ?_
  rw [runAll_step I h]
  have hl : (runAll I (cs.take n)).2.length = n := by
    have := (runAll_keep I (cs.take n) (I, [])).2.2.2
    unfold runAll
    rw [this]; simp; omega
  unfold stepV
  show ((runAll I (cs.take n)).2 ++ [_])[n]? = _
  rw [List.getElem?_append_right (by omega), hl, Nat.sub_self]; rfl
end Go.Proofs.Ytfjiolgdcphjhaa

namespace Go.Proofs.Ytfjiolgdcphjhaa
open Go.ChangeShapes Go.WideShapes Go.ChangeAt Go.RowKit Go.Syn Go.Eng
set_option linter.unusedVariables false
set_option linter.unusedSimpArgs false
set_option maxRecDepth 100000
def hasC (l : List CmD) (c : CmD) : Bool := l.any fun x => (x.sess == c.sess) && (x.seq == c.seq)
theorem hasC_iff {l : List CmD} {c : CmD} : hasC l c = true ↔ ∃ x ∈ l, sameC x c := by
  unfold hasC sameC
  simp
theorem hasC_step {l : List CmD} {c x : CmD} {j : Nat} (h : l[j]? = some x) : hasC (l.take (j + 1)) c = (hasC (l.take j) c || ((x.sess == c.sess) && (x.seq == c.seq))) := by
  unfold hasC
  rw [List.take_add_one, h, List.any_append]
  simp
def OnOI (W : World) (n : Nat) (vs : Vals) (hx : HX) : Prop := ∃ (k : Nat) (J : Im) (seen : List CmD) (a1 : Option Addr) (c1 : Nat) (a2 : Option Addr) (c2 : Nat) (es : List SE) (sa : Option Addr) (sc : Nat), k ≤ n ∧ k ≤ 60 ∧ imOk J ∧ J.sl ≤ k ∧ J.ep ≤ k ∧ XInv J.tb seen ∧ seen.length ≤ 8 * k ∧ ((sc ≠ 0 → sa.isSome = true) ∧ (seen ≠ [] → sc ≠ 0)) ∧ es.map SE.s = J.tb ∧
  (∀ q, (crow sa seen.length sc seen).F q → W.heap.size ≤ q ∧ ¬ (imX J a1 a2 c2 es).F q) ∧
  vs = ⟨(k : Int) :: imI J ++ rgs J.regs, [], [], [seen.length, sc, J.mem.length, c1, J.tb.length, c2], [sa, a1, a2]⟩ ∧ hx = (imX J a1 a2 c2 es).and (crow sa seen.length sc seen)
def OnMI (W : World) (G : Im) (cs : List CmD) (N : Nat) (H0 : HX) (vs : Vals) (hx : HX) : Prop := ∃ (n : Nat) (seen : List CmD) (sa : Option Addr) (sc : Nat), n ≤ cs.length ∧ XInv (runAll G (cs.take n)).1.tb seen ∧ seen.length ≤ N + n ∧ (∀ q, (crow sa seen.length sc seen).F q → W.heap.size ≤ q ∧ ¬ H0.F q) ∧ ((sc ≠ 0 → sa.isSome = true) ∧ (seen ≠ [] → sc ≠ 0)) ∧
  vs = ⟨(n : Int) :: rgs (runAll G (cs.take n)).1.regs, [], [], [seen.length, sc], [sa]⟩ ∧ hx = H0.and (crow sa seen.length sc seen)
def OnNI (seen : List CmD) (c : CmD) (hx0 : HX) (vs : Vals) (hx : HX) : Prop := ∃ j : Nat, j ≤ seen.length ∧ vs = ⟨[(j : Int)], [hasC (seen.take j) c], [], [], []⟩ ∧ hx = hx0
def hi1 : Im := ⟨0, [1], 0, im0.regs, []⟩
theorem hi1_ok : imOk hi1 := ⟨(validI_iff hi1).1 (by kernel_rfl), rfl, by unfold hi1 I64; decide⟩
set_option maxHeartbeats 8000000 in
theorem once20_walk (a : Option Addr) (cap : Nat) (xs : List Pv) (w : World) (H : Cells w a (qcs xs)) (hxs : ∀ p ∈ xs, VlAt w p.v p.a1 p.a2 ∧ ∀ c ∈ p.v.cs, CmFit c) : Calls Try.prog 4 #[.slice a xs.length cap] w (PureAt w (.bool true)) := by
  refine calls_at (tab_ok _) Try.func4 rfl tXOnce (ρ := ⟨[], [], [], [xs.length, cap], [a]⟩) (ids := []) (hx := HX.nil) rfl (Facts.initP rfl oneNil) ?_
  have keepV : ∀ {m : Mem} {ρ : Env} {ids : List Nat} {hx : HX} {w2 : World} {R : Ending → World → Prop} {p : Pv}, p ∈ xs → Facts ⟨Try.prog, w, fun _ => False, R⟩ m ρ ids hx w2 → VlAt w2 p.v p.a1 p.a2 := fun hp hf => (hxs _ hp).1.fit.at_ ((vlX _ _ _).loc _ _ (hxs _ hp).1.X fun k hk => hf.chg.block k (vlX_sep (hxs _ hp).1.X k hk) (fun q => q))
  refine node_P ⟨[], [true], [], [], []⟩ #[] (.bool true) (by intros; kernel_rfl) (by intros; kernel_rfl) (by kernel_rfl) (by kernel_rfl) (by kernel_rfl) oneNil (fun ids w2 hp hf => head20_any w2) ?_
  refine br_f (by kernel_rfl) ?_
  refine node_im (V := id) (I := hi1) (fun ids => #[.slice (some ⟨idAt ids 0, 0, none⟩) 1 1]) (fun x1 y1 x2 y2 => ⟨imI hi1, [], [], [1, y1, 0, y2], [x1, x2]⟩) (by intros; kernel_rfl) (fun ids w2 hp hf => xfirst_any _ 1 [1] w2 (ints_blk hf 0 3 [.int .i64 (.lit 1)] [1] rfl (by kernel_rfl) (by decide) (by unfold I64; decide)) (by decide)) (by intros; kernel_rfl) (by kernel_rfl) (by kernel_rfl) (by intros; kernel_rfl) (fun _ _ _ _ => oneNil) ?_
  intro x1 y1 x2 y2 es0 hm0 hdj0 hsm0 had0 hn0
  have hrow0 : ∀ (sa : Option Addr) q, ¬ (crow sa 0 0 []).F q := fun sa q hq => absurd rfl hq.1
  refine loop_i (OnOI w xs.length) (fun vs => xs.length - (vs.i.headD 0).toNat) (fun ids w2 hp hf => ⟨(imX hi1 x1 x2 y2 es0).and (crow (some ⟨idAt ids 3, 0, none⟩) 0 0 []), ⟨⟨hf.x.2, HX.rw_nil _ _ _ _⟩, fun j hj => hj.elim (fun z => hf.sep j (.inr z)) (fun z => absurd z (hrow0 _ j))⟩, 0, hi1, [], x1, y1, x2, y2, es0, _, 0, Nat.zero_le _, by decide, hi1_ok, by decide, by decide, XInv.nil, by decide, ⟨fun z => absurd rfl z, fun z => absurd rfl z⟩, hm0, fun q hq => absurd hq (hrow0 _ q), by kernel_rfl, rfl⟩) ?_
  rintro vs hx' hcnt ⟨k, J, seen, a1, c1, a2, c2, es, sa, sc, hkn, hk60, hJ, hsl, hep, hXI, hsl8, hsm0', hes, hcr, rfl, rfl⟩
  by_cases hlt : k < xs.length
  case' neg => exact br_F (decide ((k : Int) < (xs.length : Int))) (by kernel_rfl) (decide_eq_false (by omega)) (pure_done (by intros; kernel_rfl))
  refine br_T (decide ((k : Int) < (xs.length : Int))) (by kernel_rfl) (decide_eq_true (by omega)) ?_
  by_cases hlt6 : k < 60
  case' neg => exact br_F (decide ((k : Int) < 60)) (by kernel_rfl) (decide_eq_false (by omega)) (pure_done (by intros; kernel_rfl))
  refine br_T (decide ((k : Int) < 60)) (by kernel_rfl) (decide_eq_true (by omega)) ?_
  obtain ⟨p, hp⟩ : ∃ p, xs[k]? = some p := ⟨_, List.getElem?_eq_getElem hlt⟩
  have hpm := List.mem_of_getElem? hp
  have hnd : a.isSome = true ∧ (0 : Int) ≤ k ∧ (k : Int) < xs.length := ⟨(pv_part H k 0 p.cells hp (fun j u hj => by rw [Nat.zero_add]; exact hj) (by simp [Pv.cells])).1, by omega, by omega⟩
  have s0 := hJ.1.sl0
  have e0 := hJ.1.ep0
  have hws : IntKind.i64.wrap (J.sl + 1) = J.sl + 1 := wrap_i64 (by omega)
  have hes2 : es.length ≤ 16 := by rw [es_len hes]; exact hJ.1.fit.2
  obtain ⟨R, eR⟩ : ∃ R, R = execV J (J.sl + 1) p.v := ⟨_, rfl⟩
  have hwk : IntKind.i64.wrap ((k : Int) + 1) = ((k + 1 : Nat) : Int) := by rw [wrap_i64 (by omega)]; omega
  have hagain : ∀ {m : Mem} {ρ : Env} {pre : List Nat} {es1 : Vec} {L : Stack}, lkup 7 L = some (fun vs' hx'' => OnOI w xs.length vs' hx'' ∧ xs.length - (vs'.i.headD 0).toNat < xs.length - ((k : Int)).toNat) → (∀ ids, es1.den ρ ids = ⟨IntKind.i64.wrap ((k : Int) + 1) :: imI J ++ rgs J.regs, [], [], [seen.length, sc, J.mem.length, c1, J.tb.length, c2], [sa, a1, a2]⟩) → (Tree.again 7 es1 m).holds ⟨Try.prog, w, fun _ => False, PureAt w (.bool true)⟩ ρ pre ((imX J a1 a2 c2 es).and (crow sa seen.length sc seen)) L := fun hL hv =>
    again_V ⟨((k + 1 : Nat) : Int) :: imI J ++ rgs J.regs, [], [], [seen.length, sc, J.mem.length, c1, J.tb.length, c2], [sa, a1, a2]⟩ hL (fun ids => (hv ids).trans (by rw [hwk])) _ (fun w2 ids hf => ⟨hf.x, hf.sep⟩) ⟨⟨k + 1, J, seen, a1, c1, a2, c2, es, sa, sc, hlt, hlt6, hJ, by omega, by omega, hXI, by omega, hsm0', hes, hcr, rfl, rfl⟩, by
      show xs.length - (((k + 1 : Nat) : Int)).toNat < xs.length - ((k : Int)).toNat
      omega⟩
  refine need_k (a.isSome = true ∧ (0 : Int) ≤ k ∧ (k : Int) < xs.length) (by kernel_rfl) hnd ?_
  refine node_ld0 (k := ⟨53, 1, 0, 12, 6⟩) ⟨[p.v.k], [], [], [p.v.cs.length, p.c1, p.v.ns.length, p.c2], [p.a1, p.a2]⟩ (.pointer (some (((a.getD ⟨0, 0, none⟩).add (k * 3)).add 0))) p.cells (by intros; kernel_rfl) (by intros; kernel_rfl) (pv_all H k hp) hcnt (by kernel_rfl) oneNil ?_
  refine node_P ⟨[valE p.v], [], [], [], []⟩ #[vlV p.v p.a1 p.c1 p.a2 p.c2] (.int .i64 (valE p.v)) (by intros; kernel_rfl) (by intros; kernel_rfl) (by kernel_rfl) (by kernel_rfl) (by kernel_rfl) oneNil (fun ids w2 hp hf => rchk_any p.v p.a1 p.c1 p.a2 p.c2 w2 (keepV hpm hf)) ?_
  by_cases hz : valE p.v = 0
  case' neg => exact br_T (valE p.v != 0) (by kernel_rfl) (by simpa using hz) (hagain rfl (by intros; kernel_rfl))
  refine br_F (valE p.v != 0) (by kernel_rfl) (by rw [hz]; rfl) ?_
  refine need_k (a.isSome = true ∧ (0 : Int) ≤ k ∧ (k : Int) < xs.length) (by kernel_rfl) hnd ?_
  refine node_ld0 (k := ⟨55, 1, 0, 16, 8⟩) ⟨[p.v.k], [], [], [], []⟩ (.pointer (some (((a.getD ⟨0, 0, none⟩).add (k * 3)).add 0))) [.int .i64 p.v.k] (by intros; kernel_rfl) (by intros; kernel_rfl) (pv_one H k 0 _ hp rfl) ⟨by kernel_rfl, oneNil⟩ (by kernel_rfl) oneNil ?_
  by_cases k2 : p.v.k = 2
  case' pos => exact br_T (p.v.k == 2) (by kernel_rfl) (by simpa using k2) (hagain rfl (by intros; kernel_rfl))
  refine br_F (p.v.k == 2) (by kernel_rfl) (by simpa using k2) ?_
  refine need_k (a.isSome = true ∧ (0 : Int) ≤ k ∧ (k : Int) < xs.length) (by kernel_rfl) hnd ?_
  have ok := exec_ok hJ rfl (by omega) (fun _ => by omega) hz (hxs p hpm).1.n.fits
  rw [← eR] at ok
  refine par_i ?_ ?_
  all_goals
    refine node_ld0 (k := ⟨56, 1, 0, 16, 8⟩) ⟨[p.v.k], [], [], [p.v.cs.length, p.c1, p.v.ns.length, p.c2], [p.a1, p.a2]⟩ (.pointer (some (((a.getD ⟨0, 0, none⟩).add (k * 3)).add 0))) p.cells (by intros; kernel_rfl) (by intros; kernel_rfl) (pv_all H k hp) ⟨by kernel_rfl, oneNil⟩ (by kernel_rfl) oneNil ?_
    try refine par_i ?_ ?_
  all_goals
    refine node_vl (V := id) (v := p.v) (fun _ => #[vlV p.v p.a1 p.c1 p.a2 p.c2]) (fun b1 d1 b2 d2 => ⟨[p.v.k], [], [], [p.v.cs.length, d1, p.v.ns.length, d2], [b1, b2]⟩) (by intros; kernel_rfl) (fun ids w2 hp hf => cpvl_any p.v p.a1 p.c1 p.a2 p.c2 w2 (keepV hpm hf)) (by intros; kernel_rfl) (by kernel_rfl) (by kernel_rfl) (by intros; kernel_rfl) (fun _ _ _ _ => oneNil) ?_
    intro b1 d1 b2 d2 hb1
    try refine par_i ?_ ?_
  all_goals
    refine node_ex (R := R) (fun _ => #[imV J a1 c1 a2 c2, .int .i64 (J.sl + 1), vlV p.v b1 d1 b2 d2]) (fun ids => Eq.trans (b := #[imV J a1 c1 a2 c2, .int .i64 (IntKind.i64.wrap (J.sl + 1)), vlV p.v b1 d1 b2 d2]) (by kernel_rfl) (by rw [hws])) (fun ids w2 hp hf => eR ▸ xexec_any J a1 c1 a2 c2 es (J.sl + 1) p.v b1 d1 b2 d2 w2 (hJ.fit.at_ hes hf.x.1.1) (by omega) hJ.fit.len ((hxs p hpm).1.fit.at_ hf.x.2)) (by intros; kernel_rfl) (by kernel_rfl) (by kernel_rfl) (by intros; kernel_rfl) ?_
    intro g1 h1 g2 h2 es2 oa oc hm2 hdj2 hsm2 hso2 hn2
    refine br_F (R.e != 0) (by kernel_rfl) (by rw [ok.e]; rfl) ?_
    refine need_k (a.isSome = true ∧ (0 : Int) ≤ k ∧ (k : Int) < xs.length) (by kernel_rfl) hnd ?_
    refine node_ld0 (k := ⟨77, 1, 0, 30, 15⟩) ⟨[], [], [], [p.v.cs.length, p.c1], [p.a1]⟩ (.pointer (some (((a.getD ⟨0, 0, none⟩).add (k * 3)).add 1))) [.slice p.a1 p.v.cs.length p.c1] (by intros; kernel_rfl) (by intros; kernel_rfl) (pv_one H k 1 _ hp rfl) ⟨by kernel_rfl, oneNil⟩ (by kernel_rfl) oneNil ?_
    refine br_F ((R.an.length : Int) != (p.v.cs.length : Int)) (by kernel_rfl) (by rw [ok.len]; simp) ?_
    refine need_k (a.isSome = true ∧ (0 : Int) ≤ k ∧ (k : Int) < xs.length) (by kernel_rfl) hnd ?_
    refine node_ld0 (k := ⟨77, 1, 0, 32, 16⟩) ⟨[], [], [], [p.v.cs.length, p.c1], [p.a1]⟩ (.pointer (some (((a.getD ⟨0, 0, none⟩).add (k * 3)).add 1))) [.slice p.a1 p.v.cs.length p.c1] (by intros; kernel_rfl) (by intros; kernel_rfl) (pv_one H k 1 _ hp rfl) ⟨by kernel_rfl, oneNil⟩ (by kernel_rfl) oneNil ?_
    obtain ⟨G, eG⟩ : ∃ G, G = goI J (J.sl + 1) p.v := ⟨_, rfl⟩
    obtain ⟨H0, eH⟩ : ∃ H0, H0 = ((imX J a1 a2 c2 es).and (vlX p.v b1 b2)).and (exX R g1 g2 h2 es2 oa) := ⟨_, rfl⟩
    have hG : imOk G := by rw [eG]; exact goI_ok hJ rfl (by omega) (fun q => absurd q k2) hz (hxs p hpm).1.n.fits
    have hall := cs_ok hz
    have hGr : G.regs = J.regs := by rw [eG]; unfold goI; rw [if_neg k2]
    have hGt : G.tb = J.tb := by rw [eG]; unfold goI; rw [if_neg k2]
    have hc8 : p.v.cs.length ≤ 8 := by
      rcases valE_zero hz with q | q | q
      · rw [q.2.1]; decide
      · rw [q.2.1]; decide
      · exact q.2.1
    have hOA : R.an = (runAll G p.v.cs).2 := by rw [ok.an, eG]
    refine holds_eq (show _ = H0.and (crow sa seen.length sc seen) from by rw [eH, HX.and_right_comm (imX J a1 a2 c2 es) (crow sa seen.length sc seen) (vlX p.v b1 b2), HX.and_right_comm]) ?_
    have hcr0 : ∀ q, (crow sa seen.length sc seen).F q → w.heap.size ≤ q ∧ ¬ H0.F q := fun q hq => ⟨(hcr q hq).1, by
      rw [eH]
      rintro ((z | z) | z)
      · exact (hcr q hq).2 z
      · exact (hb1 q z).2 (.inr hq)
      · exact (hn2 q z).2 (.inl (.inr hq))⟩
    refine loop_i (OnMI w G p.v.cs seen.length H0) (fun vs => p.v.cs.length - (vs.i.headD 0).toNat) (fun ids w2 hp hf => ⟨H0.and (crow sa seen.length sc seen), ⟨hf.x, hf.sep⟩, 0, seen, sa, sc, Nat.zero_le _, by show XInv G.tb seen; rw [hGt]; exact hXI, Nat.le_refl _, hcr0, hsm0', by show _ = (⟨_ :: rgs G.regs, _, _, _, _⟩ : Vals); rw [hGr]; kernel_rfl, rfl⟩) ?_
    rintro vs hx' hcnt2 ⟨n, sn, sa2, sc2, hn, hXn, hln, hcn, hsn, rfl, rfl⟩
    obtain ⟨Jn, eJn⟩ : ∃ Jn, Jn = (runAll G (p.v.cs.take n)).1 := ⟨_, rfl⟩
    rw [← eJn] at hXn hcnt2 ⊢
    have hJn : VI Jn ∧ Jn.regs.length = 16 := by rw [eJn]; exact hG.1.all hG.2.1 hall n
    refine holds_env (ρ' := ⟨imI hi1 ++ ((k : Int) :: imI J ++ rgs J.regs) ++ [p.v.k, valE p.v, p.v.k, p.v.k, p.v.k] ++ imI R.i ++ [R.e] ++ ((n : Int) :: rgs Jn.regs), [true], [], [xs.length, cap, 1, y1, 0, y2, seen.length, sc, J.mem.length, c1, J.tb.length, c2, p.v.cs.length, p.c1, p.v.ns.length, p.c2, p.v.cs.length, p.c1, p.v.ns.length, p.c2, p.v.cs.length, d1, p.v.ns.length, d2, R.i.mem.length, h1, R.i.tb.length, h2, R.an.length, oc, p.v.cs.length, p.c1, p.v.cs.length, p.c1, sn.length, sc2], [a, x1, x2, sa, a1, a2, p.a1, p.a2, p.a1, p.a2, b1, b2, g1, g2, oa, p.a1, p.a1, sa2]⟩) (by kernel_rfl) ?_
    by_cases hltn : n < p.v.cs.length
    case' neg =>
      refine br_F (decide ((n : Int) < (p.v.cs.length : Int))) (by kernel_rfl) (decide_eq_false (by omega)) ?_
      have hJR : Jn = R.i := by rw [eJn, List.take_of_length_le (by omega), ok.i, eG]
      refine br_F (!(regEq R.i.regs Jn.regs)) (by kernel_rfl) (by rw [hJR, regEq_refl]; rfl) ?_
      exact again_V ⟨((k + 1 : Nat) : Int) :: imI R.i ++ rgs R.i.regs, [], [], [sn.length, sc2, R.i.mem.length, h1, R.i.tb.length, h2], [sa2, g1, g2]⟩ rfl (fun ids => Eq.trans (b := ⟨IntKind.i64.wrap ((k : Int) + 1) :: imI R.i ++ rgs Jn.regs, [], [], [sn.length, sc2, R.i.mem.length, h1, R.i.tb.length, h2], [sa2, g1, g2]⟩) (by kernel_rfl) (by rw [hwk, hJR])) ((imX R.i g1 g2 h2 es2).and (crow sa2 sn.length sc2 sn)) (fun w2 ids hf => by
        rw [eH] at hf
        exact ⟨⟨hf.x.1.2.1, hf.x.2⟩, fun j hj => hf.sep j (hj.elim (fun z => .inl (.inr (.inl z))) .inr)⟩) ⟨⟨k + 1, R.i, sn, g1, h1, g2, h2, es2, sa2, sc2, hlt, hlt6, ok.ok, by rw [ok.sl]; omega, by rw [ok.ep, if_neg k2]; omega, by rw [← hJR]; exact hXn, by omega, hsn, hm2, fun q hq => ⟨(hcn q hq).1, fun z => (hcn q hq).2 (by rw [eH]; exact .inr (.inl z))⟩, rfl, rfl⟩, by
        show xs.length - (((k + 1 : Nat) : Int)).toNat < xs.length - ((k : Int)).toNat
        omega⟩
    refine br_T (decide ((n : Int) < (p.v.cs.length : Int))) (by kernel_rfl) (decide_eq_true (by omega)) ?_
    obtain ⟨c, hc⟩ : ∃ c, p.v.cs[n]? = some c := ⟨_, List.getElem?_eq_getElem hltn⟩
    have hcv := hall c (List.mem_of_getElem? hc)
    refine need_k (p.a1.isSome = true ∧ (0 : Int) ≤ n ∧ (n : Int) < p.v.cs.length) (by kernel_rfl) ⟨(c_elt (hxs p hpm).1.c hc).1, by omega, by omega⟩ ?_
    refine node_ldk ⟨c.is, [], [], [], []⟩ (fun _ => .pointer (some (((p.a1.getD ⟨0, 0, none⟩).add (n * 8)).add 0))) c.cells (by intros; kernel_rfl) (by intros; kernel_rfl) (fun ids w2 hp hf => (c_elt (keepV hpm hf).c hc).2 _ (fun q => q)) (by kernel_rfl) oneNil ?_
    refine loop_i (OnNI sn c (H0.and (crow sa2 sn.length sc2 sn))) (fun vs => sn.length - (vs.i.headD 0).toNat) (fun ids w2 hp hf => ⟨_, ⟨hf.x, hf.sep⟩, 0, Nat.zero_le _, by kernel_rfl, rfl⟩) ?_
    rintro vs hx' hcnt3 ⟨j, hj, rfl, rfl⟩
    obtain ⟨bj, ebj⟩ : ∃ bj, bj = hasC (sn.take j) c := ⟨_, rfl⟩
    rw [← ebj]
    by_cases hltj : j < sn.length
    case' pos =>
      refine br_T (decide ((j : Int) < (sn.length : Int))) (by kernel_rfl) (decide_eq_true (by omega)) ?_
      obtain ⟨x, hx⟩ : ∃ x, sn[j]? = some x := ⟨_, List.getElem?_eq_getElem hltj⟩
      have hne : sn ≠ [] := fun q => by rw [q] at hltj; simp at hltj
      have hwj : IntKind.i64.wrap ((j : Int) + 1) = ((j + 1 : Nat) : Int) := by rw [wrap_i64 (by omega)]; omega
      have hst := hasC_step (c := c) hx
      rw [← ebj] at hst
      have fin : ∀ {m : Mem} {ρ : Env} {pre : List Nat} {es1 : Vec} {L : Stack} (bb : Bool), lkup 18 L = some (fun vs' hx'' => OnNI sn c (H0.and (crow sa2 sn.length sc2 sn)) vs' hx'' ∧ sn.length - (vs'.i.headD 0).toNat < sn.length - ((j : Int)).toNat) → (∀ ids, es1.den ρ ids = ⟨[IntKind.i64.wrap ((j : Int) + 1)], [bb], [], [], []⟩) → bb = hasC (sn.take (j + 1)) c → (Tree.again 18 es1 m).holds ⟨Try.prog, w, fun _ => False, PureAt w (.bool true)⟩ ρ pre (H0.and (crow sa2 sn.length sc2 sn)) L := fun bb hL hv hb =>
        again_V ⟨[((j + 1 : Nat) : Int)], [hasC (sn.take (j + 1)) c], [], [], []⟩ hL (fun ids => (hv ids).trans (by rw [hwj, hb])) _ (fun w2 ids hf => ⟨hf.x, hf.sep⟩) ⟨⟨j + 1, hltj, rfl, rfl⟩, by
          show sn.length - (((j + 1 : Nat) : Int)).toNat < sn.length - ((j : Int)).toNat
          omega⟩
      refine need_k (sa2.isSome = true ∧ (0 : Int) ≤ j ∧ (j : Int) < sn.length) (by kernel_rfl) ⟨hsn.1 (hsn.2 hne), by omega, by omega⟩ ?_
      refine node_ldk ⟨x.is, [], [], [], []⟩ (fun _ => .pointer (some (((sa2.getD ⟨0, 0, none⟩).add (j * 8)).add 0))) x.cells (by intros; kernel_rfl) (by intros; kernel_rfl) (fun ids w2 hp hf => (c_elt (rw_cells hf.x.2) hx).2 _ (fun q => q)) (by kernel_rfl) oneNil ?_
      rcases Bool.eq_false_or_eq_true bj with hb | hb
      · refine br_T bj (by kernel_rfl) hb ?_
        exact fin true rfl (by intros; kernel_rfl) (by rw [hst, hb]; rfl)
      · refine br_F bj (by kernel_rfl) hb ?_
        by_cases hs : x.sess = c.sess
        · refine br_T (x.sess == c.sess) (by kernel_rfl) (by simpa using hs) ?_
          exact fin (x.seq == c.seq) rfl (by intros; kernel_rfl) (by rw [hst, hb, hs]; simp)
        · refine br_F (x.sess == c.sess) (by kernel_rfl) (by simpa using hs) ?_
          exact fin false rfl (by intros; kernel_rfl) (by rw [hst, hb]; simp [hs])
    refine br_F (decide ((j : Int) < (sn.length : Int))) (by kernel_rfl) (decide_eq_false (by omega)) ?_
    rw [List.take_of_length_le (by omega)] at ebj
    have hget := runAll_get G hc
    rw [← eJn, ← hOA] at hget
    obtain ⟨Q, eQ⟩ : ∃ Q, Q = runV Jn c := ⟨_, rfl⟩
    rw [← eQ] at hget
    have hstep : (runAll G (p.v.cs.take (n + 1))).1 = Q.i := by rw [runAll_step G hc, eQ, eJn]; rfl
    have hrun := hXn.run hJn.1.regs hcv
    rw [← eQ] at hrun
    have hwn : IntKind.i64.wrap ((n : Int) + 1) = ((n + 1 : Nat) : Int) := by rw [wrap_i64 (by omega)]; omega
    have hno : R.an ≠ [] := fun q => by rw [q] at hget; simp at hget
    have hndo : oa.isSome = true ∧ (0 : Int) ≤ n ∧ (n : Int) < R.an.length := ⟨hso2 hno, by omega, by rw [ok.len]; omega⟩
    have ldo : ∀ {m m' : Mem} {t : Tree} {L : Stack} {pre : List Nat} {ρ : Env} {l : LV} {cs : List LV}, (∀ ids, l.den ρ ids = .pointer (some (((oa.getD ⟨0, 0, none⟩).add (n * 5)).add 2))) → (∀ ids, cellsDen (ρ.add ⟨[Q.k], [], [], [], []⟩) ids cs = [.int .i64 Q.k]) → (ρ.add ⟨[Q.k], [], [], [], []⟩).cnt = m'.c → t.holds ⟨Try.prog, w, fun _ => False, PureAt w (.bool true)⟩ (ρ.add ⟨[Q.k], [], [], [], []⟩) pre (H0.and (crow sa2 sn.length sc2 sn)) L → (Tree.ld true l cs m m' t).holds ⟨Try.prog, w, fun _ => False, PureAt w (.bool true)⟩ ρ pre (H0.and (crow sa2 sn.length sc2 sn)) L := fun h1 h2 h3 h4 =>
      node_ldk ⟨[Q.k], [], [], [], []⟩ (fun _ => .pointer (some (((oa.getD ⟨0, 0, none⟩).add (n * 5)).add 2))) [.int .i64 Q.k] h1 h2 (fun ids w2 hp hf => by
        rw [eH] at hf
        exact (flat_part an_len hf.x.1.2.2 hget (o := 2) [.int .i64 Q.k] (at1 rfl) (by simp)).2 _ (fun q => q)) h3 oneNil h4
    have cont : ∀ {m : Mem} {ρ : Env} {pre : List Nat} {es1 : Vec} {L : Stack}, Q.i.regs = Jn.regs → XInv Q.i.tb sn → lkup 14 L = some (fun vs' hx'' => OnMI w G p.v.cs seen.length H0 vs' hx'' ∧ p.v.cs.length - (vs'.i.headD 0).toNat < p.v.cs.length - ((n : Int)).toNat) → (∀ ids, es1.den ρ ids = ⟨IntKind.i64.wrap ((n : Int) + 1) :: rgs Jn.regs, [], [], [sn.length, sc2], [sa2]⟩) → (Tree.again 14 es1 m).holds ⟨Try.prog, w, fun _ => False, PureAt w (.bool true)⟩ ρ pre (H0.and (crow sa2 sn.length sc2 sn)) L := fun h1 h2 hL hv =>
      again_V ⟨((n + 1 : Nat) : Int) :: rgs Q.i.regs, [], [], [sn.length, sc2], [sa2]⟩ hL (fun ids => (hv ids).trans (by rw [hwn, h1])) _ (fun w2 ids hf => ⟨hf.x, hf.sep⟩) ⟨⟨n + 1, sn, sa2, sc2, hltn, by rw [hstep]; exact h2, by omega, hcn, hsn, by rw [hstep], rfl⟩, by
        show p.v.cs.length - (((n + 1 : Nat) : Int)).toNat < p.v.cs.length - ((n : Int)).toNat
        omega⟩
    rcases hrun with ⟨r1, r2, r3⟩ | ⟨r1, r2, r3, r4, r5, r6, r7⟩
    · -- it is not run
      rcases Bool.eq_false_or_eq_true bj with hb | hb
      · refine br_T bj (by kernel_rfl) hb ?_
        refine need_k (oa.isSome = true ∧ (0 : Int) ≤ n ∧ (n : Int) < R.an.length) (by kernel_rfl) hndo ?_
        refine ldo (by intros; kernel_rfl) (by intros; kernel_rfl) (by kernel_rfl) ?_
        exact br_i (fun _ => cont r1 r2 rfl (by intros; kernel_rfl)) (fun _ => cont r1 r2 rfl (by intros; kernel_rfl))
      · refine br_F bj (by kernel_rfl) hb ?_
        refine need_k (oa.isSome = true ∧ (0 : Int) ≤ n ∧ (n : Int) < R.an.length) (by kernel_rfl) hndo ?_
        refine ldo (by intros; kernel_rfl) (by intros; kernel_rfl) (by kernel_rfl) ?_
        have r4 : Q.k = 4 ∨ Q.k = 5 ∨ Q.k = 6 := r3.resolve_right (fun q => by
          have := hasC_iff.2 q
          rw [← ebj, hb] at this; cases this)
        refine br_T (decide (Q.k > 3)) (by kernel_rfl) (decide_eq_true (by omega)) ?_
        refine need_k (oa.isSome = true ∧ (0 : Int) ≤ n ∧ (n : Int) < R.an.length) (by kernel_rfl) hndo ?_
        refine ldo (by intros; kernel_rfl) (by intros; kernel_rfl) (by kernel_rfl) ?_
        by_cases q4 : Q.k = 4
        case' pos => exact br_F (Q.k != 4) (by kernel_rfl) (by simpa using q4) (cont r1 r2 rfl (by intros; kernel_rfl))
        refine br_T (Q.k != 4) (by kernel_rfl) (by simpa using q4) ?_
        refine need_k (oa.isSome = true ∧ (0 : Int) ≤ n ∧ (n : Int) < R.an.length) (by kernel_rfl) hndo ?_
        refine ldo (by intros; kernel_rfl) (by intros; kernel_rfl) (by kernel_rfl) ?_
        by_cases q5 : Q.k = 5
        case' pos => exact br_F (Q.k != 5) (by kernel_rfl) (by simpa using q5) (cont r1 r2 rfl (by intros; kernel_rfl))
        refine br_T (Q.k != 5) (by kernel_rfl) (by simpa using q5) ?_
        refine need_k (oa.isSome = true ∧ (0 : Int) ≤ n ∧ (n : Int) < R.an.length) (by kernel_rfl) hndo ?_
        refine ldo (by intros; kernel_rfl) (by intros; kernel_rfl) (by kernel_rfl) ?_
        have q6 : Q.k = 6 := by omega
        exact br_F (Q.k != 6) (by kernel_rfl) (by simpa using q6) (cont r1 r2 rfl (by intros; kernel_rfl))
    · have hb : bj = false := by
        rcases Bool.eq_false_or_eq_true bj with hb | hb
        · obtain ⟨x, x1, x2⟩ := hasC_iff.1 (ebj ▸ hb)
          exact absurd x2 (r3 x x1)
        · exact hb
      refine br_F bj (by kernel_rfl) hb ?_
      refine need_k (oa.isSome = true ∧ (0 : Int) ≤ n ∧ (n : Int) < R.an.length) (by kernel_rfl) hndo ?_
      refine ldo (by intros; kernel_rfl) (by intros; kernel_rfl) (by kernel_rfl) ?_
      refine br_F (decide (Q.k > 3)) (by kernel_rfl) (decide_eq_false (by omega)) ?_
      refine node_pushs (z := .agg #[.int .i64 0, .int .i64 0, .int .i64 0, .int .i64 0, .int .i64 0, .int .i64 0, .int .i64 0, .int .i64 0]) (sz := 8) (bytes := 64) rfl (by kernel_rfl) info_cmd rfl (by decide) sa2 sn.length sc2 (ccells sn) c.cells 6 (by intros; kernel_rfl) (by intros; kernel_rfl) rfl (by intros; kernel_rfl) rfl (cmd_one _) (fun q h1 h2 hF => (hcn q ⟨h1, h2⟩).2 hF) (fun q h1 h2 => .inl (hcn q ⟨h1, h2⟩).1) (by simp [maxLen]; omega) (by omega) (by intros; kernel_rfl) (by kernel_rfl) (by kernel_rfl) (by intros; kernel_rfl) ?_
      intro sa3 sc3 hsc3 hdis3 hwh3
      rw [ccells_snoc]
      obtain ⟨pp, epp⟩ : ∃ pp, pp = applyM Jn.regs c.op := ⟨_, rfl⟩
      rw [← epp] at r1 r5 r6 r7
      have hpl : pp.1.length = 16 := by rw [epp]; exact (applyM_len _ _).trans hJn.2
      refine node_P ⟨rgs pp.1 ++ [pp.2.1, pp.2.2.1, pp.2.2.2], [], [], [], []⟩ #[.agg ((rgs Jn.regs).map (Value.int .i64)).toArray, .agg c.op.cells.toArray] (resV pp) (by intros; kernel_rfl) (fun ids => Eq.trans (b := resV (rgs pp.1, pp.2)) (by kernel_rfl) (by unfold resV; rw [rgs_of hpl])) (by kernel_rfl) (by kernel_rfl) (by kernel_rfl) oneNil (fun ids w2 hp hf => by
        have := apply_any (rgs Jn.regs) rfl c.op w2
        rw [rgs_of hJn.2] at this ⊢
        rw [epp]; exact this) ?_
      refine need_k (oa.isSome = true ∧ (0 : Int) ≤ n ∧ (n : Int) < R.an.length) (by kernel_rfl) hndo ?_
      refine node_ldk ⟨[Q.k, Q.re, Q.im], [], [], [], []⟩ (fun _ => .pointer (some (((oa.getD ⟨0, 0, none⟩).add (n * 5)).add 2))) [.int .i64 Q.k, .int .i64 Q.re, .int .i64 Q.im] (by intros; kernel_rfl) (by intros; kernel_rfl) (fun ids w2 hp hf => by
        rw [eH] at hf
        exact (flat_part an_len hf.x.1.2.2 hget (o := 2) [.int .i64 Q.k, .int .i64 Q.re, .int .i64 Q.im] (fun j u hj => by unfold AnD.cells; rw [Nat.add_comm, List.getElem?_cons_succ, List.getElem?_cons_succ]; exact hj) (by simp)).2 _ (fun q => q)) (by kernel_rfl) oneNil ?_
      refine br_F (!((Q.k == pp.2.1) && ((Q.re == pp.2.2.1) && (Q.im == pp.2.2.2)))) (by kernel_rfl) (by rw [r5, r6, r7]; simp) ?_
      refine again_V ⟨((n + 1 : Nat) : Int) :: rgs Q.i.regs, [], [], [sn.length + 1, sc3], [sa3]⟩ rfl (fun ids => Eq.trans (b := ⟨IntKind.i64.wrap ((n : Int) + 1) :: rgs pp.1, [], [], [sn.length + 1, sc3], [sa3]⟩) (by kernel_rfl) (by rw [hwn, r1])) _ (fun w2 ids hf => ⟨hf.x, hf.sep⟩) ⟨⟨n + 1, sn ++ [c], sa3, sc3, hltn, by rw [hstep]; exact r2, by simp; omega, fun q hq => ⟨?_, ?_⟩, ⟨fun _ => ?_, fun _ => hsc3⟩, by rw [hstep]; simp, by unfold crow; simp⟩, by
        show p.v.cs.length - (((n + 1 : Nat) : Int)).toNat < p.v.cs.length - ((n : Int)).toNat
        omega⟩
      · rcases hwh3 with ⟨z1, z2⟩ | ⟨g, z1, z2, z3⟩
        · exact (hcn q ⟨z1, by rw [← z2]; exact hq.2⟩).1
        · rw [hq.2] at z1; cases z1; exact z2
      · exact hdis3 q hq.2
      · rcases hwh3 with ⟨z1, z2⟩ | ⟨g, z1, z2, z3⟩
        · have h5 := hsn.1 z1
          cases hq3 : sa3 with
          | none =>
            rw [hq3] at z2
            cases hq4 : sa2 with
            | none => rw [hq4] at h5; cases h5
            | some _ => rw [hq4] at z2; cases z2
          | some _ => rfl
        · cases hq3 : sa3 with
          | none => rw [hq3] at z1; cases z1
          | some _ => rfl
theorem once20_args (a : Option Addr) (cap : Nat) (ds : List Dat) (w : World) (hC : Cells w a (Dat.cellsAll ds)) (hds : ∀ d ∈ ds, d.In Try.prog w 37) (hl : ds.length ≤ 9223372036854775807) (hb : ds.length * Try.prog.bytesOf 37 ≤ reachBytes) :
    Calls Try.prog 4 #[.slice a ds.length cap] w fun e w' => e = .returned (.bool true) ∧ Below w.heap.size w w' := by
  obtain ⟨xs, e1, e2, hxs⟩ := opn_pvs ds hds
  rw [e2] at hC
  rw [← e1]
  exact once20_walk a cap xs w hC hxs
end Go.Proofs.Ytfjiolgdcphjhaa
