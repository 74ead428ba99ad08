/- Sessions: as data; comparisons, binary search, clones. -/
import Derived.Test.YthgkgllllomeeaaSeT
import Derived.Test.YthgkgllllomeeaaEng30
namespace Go.Proofs.Ythgkgllllomeeaa
open Go.ChangeShapes Go.WideShapes Go.ChangeAt Go.RowKit Go.Syn Go.Eng
set_option linter.unusedVariables false
set_option linter.unusedSimpArgs false
set_option maxRecDepth 100000
structure KpD where
  seq : Int
  kind : Int
  re : Int
  im : Int
def KpD.cells (k : KpD) : List Value := [.int .i64 k.seq, .int .i64 k.kind, .int .i64 k.re, .int .i64 k.im]
structure SsD where
  no : Int
  ack : Int
  kept : List KpD
/-- A session as it lies. -/
structure SE where
  s : SsD
  a : Option Addr
  c : Nat
def SE.cells (e : SE) : List Value := [.int .i64 e.s.no, .int .i64 e.s.ack, .slice e.a e.s.kept.length e.c]
def kcells (l : List KpD) : List Value := l.flatMap KpD.cells
def secells (l : List SE) : List Value := l.flatMap SE.cells
theorem kp_len (k : KpD) : k.cells.length = 4 := rfl
theorem se_len (e : SE) : e.cells.length = 3 := rfl
theorem kp_one (l : List KpD) : ∀ v ∈ kcells l, v.oneCell' = true := fun v hv => by
  obtain ⟨k, _, h⟩ := List.mem_flatMap.1 hv
  simp only [KpD.cells, List.mem_cons, List.not_mem_nil, or_false] at h
  rcases h with rfl | rfl | rfl | rfl <;> rfl
theorem se_one (l : List SE) : ∀ v ∈ secells l, v.oneCell' = true := fun v hv => by
  obtain ⟨k, _, h⟩ := List.mem_flatMap.1 hv
  simp only [SE.cells, List.mem_cons, List.not_mem_nil, or_false] at h
  rcases h with rfl | rfl | rfl <;> rfl
theorem kcells_len (l : List KpD) : (kcells l).length = l.length * 4 := flat_len kp_len l
theorem secells_len (l : List SE) : (secells l).length = l.length * 3 := flat_len se_len l
theorem info_kp : (Try.prog.info? 48).map (fun i => (i.zero, i.size, i.bytes)) = some (some (.agg #[.int .i64 0, .int .i64 0, .int .i64 0, .int .i64 0]), 4, 32) := by kernel_rfl
theorem info_se : (Try.prog.info? 42).map (fun i => (i.zero, i.size, i.bytes)) = some (some (.agg #[.int .i64 0, .int .i64 0, .slice none 0 0]), 3, 40) := by kernel_rfl
/-- What a comparison says. -/
def cmpI (x y : Int) : Int := if x < y then -1 else if x > y then 1 else 0
theorem nan_any (x : Int) (w : World) : Calls Try.prog 36 #[.int .i64 x] w (PureAt w (.bool false)) := by
  refine calls_at (tab_ok _) Try.func36 rfl tNaN (ρ := ⟨[x], [], [], [], []⟩) (ids := []) rfl (Facts.initP rfl oneNil) (pure_done fun ids => ?_)
  show Value.bool (x != x) = _
  simp
theorem cmp_any (x y : Int) (w : World) : Calls Try.prog 30 #[.int .i64 x, .int .i64 y] w (PureAt w (.int .i64 (cmpI x y))) := by
  refine calls_at (tab_ok _) Try.func30 rfl tCmp (ρ := ⟨[x, y], [], [], [], []⟩) (ids := []) rfl (Facts.initP rfl oneNil) ?_
  refine node_P ⟨[], [false], [], [], []⟩ #[.int .i64 x] (.bool false) (by intros; kernel_rfl) (by intros; kernel_rfl) (by intros; kernel_rfl) (by intros; kernel_rfl) (by intros; kernel_rfl) oneNil (fun ids w2 hp hf => nan_any x w2) ?_
  refine node_P ⟨[], [false], [], [], []⟩ #[.int .i64 y] (.bool false) (by intros; kernel_rfl) (by intros; kernel_rfl) (by intros; kernel_rfl) (by intros; kernel_rfl) (by intros; kernel_rfl) oneNil (fun ids w2 hp hf => nan_any y w2) ?_
  refine br_f (by kernel_rfl) (br_f (by kernel_rfl) ?_)
  unfold cmpI
  by_cases h1 : x < y
  · rw [if_pos h1]
    exact br_T (decide (x < y)) (by kernel_rfl) (decide_eq_true h1) (pure_done (by intros; kernel_rfl))
  · rw [if_neg h1]
    refine br_F (decide (x < y)) (by kernel_rfl) (decide_eq_false h1) ?_
    by_cases h2 : x > y
    · rw [if_pos h2]
      exact br_T (decide (x > y)) (by kernel_rfl) (decide_eq_true h2) (pure_done (by intros; kernel_rfl))
    · rw [if_neg h2]
      exact br_F (decide (x > y)) (by kernel_rfl) (decide_eq_false h2) (pure_done (by intros; kernel_rfl))
theorem byno_any (e : SE) (t : Int) (w : World) : Calls Try.prog 20 #[.agg e.cells.toArray, .int .i64 t] w (PureAt w (.int .i64 (cmpI e.s.no t))) := by
  refine calls_at (tab_ok _) Try.func20 rfl tByNo (ρ := ⟨[e.s.no, e.s.ack, t], [], [], [e.s.kept.length, e.c], [e.a]⟩) (ids := []) rfl (Facts.initP rfl oneNil) ?_
  exact node_P ⟨[cmpI e.s.no t], [], [], [], []⟩ #[.int .i64 e.s.no, .int .i64 t] (.int .i64 (cmpI e.s.no t)) (by intros; kernel_rfl) (by intros; kernel_rfl) (by intros; kernel_rfl) (by intros; kernel_rfl) (by intros; kernel_rfl) oneNil (fun ids w2 hp hf => cmp_any _ _ w2) (pure_done (by intros; kernel_rfl))
theorem byseq_any (k : KpD) (t : Int) (w : World) : Calls Try.prog 25 #[.agg k.cells.toArray, .int .i64 t] w (PureAt w (.int .i64 (cmpI k.seq t))) := by
  refine calls_at (tab_ok _) Try.func25 rfl tBySeq (ρ := ⟨[k.seq, k.kind, k.re, k.im, t], [], [], [], []⟩) (ids := []) rfl (Facts.initP rfl oneNil) ?_
  exact node_P ⟨[cmpI k.seq t], [], [], [], []⟩ #[.int .i64 k.seq, .int .i64 t] (.int .i64 (cmpI k.seq t)) (by intros; kernel_rfl) (by intros; kernel_rfl) (by intros; kernel_rfl) (by intros; kernel_rfl) (by intros; kernel_rfl) oneNil (fun ids w2 hp hf => cmp_any _ _ w2) (pure_done (by intros; kernel_rfl))
def hitI (ks : List Int) (t : Int) : Bool := decide (ks[posI ks t]? = some t)
def BsI (ks : List Int) (t : Int) (vs : Vals) (hx : HX) : Prop := ∃ i j : Nat, i ≤ j ∧ j ≤ ks.length ∧ (∀ (x : Nat) (k : Int), x < i → ks[x]? = some k → k < t) ∧ (∀ (x : Nat) (k : Int), j ≤ x → ks[x]? = some k → t ≤ k) ∧ vs = ⟨[(i : Int), (j : Int)], [], [], [], []⟩ ∧ hx = HX.nil
theorem bst_any (a : Option Addr) (cap : Nat) (es : List SE) (t : Int) (w : World) (H : Cells w a (secells es)) (hr : Rise (es.map fun e => e.s.no)) (hl : es.length ≤ 1000000) :
    Calls Try.prog 19 #[.slice a es.length cap, .int .i64 t, .func (.func 20) #[] #[]] w (PureAt w (.tuple #[.int .i64 (posI (es.map fun e => e.s.no) t : Int), .bool (hitI (es.map fun e => e.s.no) t)])) := by
  refine calls_at (tab_ok _) Try.func19 rfl tBsT (ρ := ⟨[t], [], [], [es.length, cap], [a]⟩) (ids := []) (hx := HX.nil) rfl (Facts.initP rfl oneNil) ?_
  obtain ⟨ks, eks⟩ : ∃ k, k = es.map fun e => e.s.no := ⟨_, rfl⟩
  rw [← eks] at hr ⊢
  have hkl : ks.length = es.length := by rw [eks, List.length_map]
  have hkg : ∀ {x : Nat} {e : SE}, es[x]? = some e → ks[x]? = some (e.s.no) := fun h => by rw [eks, List.getElem?_map, h]; rfl
  refine loop_i (BsI ks t) (fun vs => ((vs.i.getD 1 0) - (vs.i.getD 0 0)).toNat) (fun ids w2 hp hf => ⟨HX.nil, HXok.none _ _, 0, es.length, Nat.zero_le _, by omega, fun x k h => absurd h (Nat.not_lt_zero _), (fun x k h h2 => by rw [List.getElem?_eq_none (by omega)] at h2; cases h2), rfl, rfl⟩) ?_
  rintro vs hx' hcnt ⟨i, j, hij, hj, h1, h2, rfl, rfl⟩
  by_cases hlt : i < j
  · refine br_T (decide ((i : Int) < (j : Int))) (by kernel_rfl) (decide_eq_true (by omega)) ?_
    obtain ⟨h, eh⟩ : ∃ h : Nat, h = (i + j) / 2 := ⟨_, rfl⟩
    have hv : IntKind.i64.wrap (ifn .shr .u64 (IntKind.u64.wrap (IntKind.i64.wrap ((i : Int) + (j : Int)))) 1) = (h : Int) := by rw [eh]; exact half_i64 (by omega)
    have hb : i ≤ h ∧ h < j := by omega
    obtain ⟨e, he⟩ : ∃ e, es[h]? = some e := ⟨_, List.getElem?_eq_getElem (by omega)⟩
    have hk := hkg he
    obtain ⟨s1, q1⟩ := flat_part se_len H he (o := 0) e.cells (fun j u hj => by rw [Nat.zero_add]; exact hj) (by simp [SE.cells])
    refine need_k (a.isSome = true ∧ 0 ≤ IntKind.i64.wrap (ifn .shr .u64 (IntKind.u64.wrap (IntKind.i64.wrap ((i : Int) + (j : Int)))) 1) ∧ IntKind.i64.wrap (ifn .shr .u64 (IntKind.u64.wrap (IntKind.i64.wrap ((i : Int) + (j : Int)))) 1) < (es.length : Int)) (by kernel_rfl) ⟨s1, by rw [hv]; omega, by rw [hv]; omega⟩ ?_
    refine node_ld0 (k := ⟨3, 0, 0, 2, 1⟩) ⟨[e.s.no, e.s.ack], [], [], [e.s.kept.length, e.c], [e.a]⟩ (.pointer (some (((a.getD ⟨0, 0, none⟩).add ((IntKind.i64.wrap (ifn .shr .u64 (IntKind.u64.wrap (IntKind.i64.wrap ((i : Int) + (j : Int)))) 1)).toNat * 3)).add 0))) e.cells (by intros; kernel_rfl) (by intros; kernel_rfl) (by rw [hv]; exact q1 _ (fun q => q)) ⟨rfl, oneNil⟩ (by kernel_rfl) oneNil ?_
    refine node_P ⟨[cmpI (e.s.no) t], [], [], [], []⟩ #[.agg e.cells.toArray, .int .i64 t] (.int .i64 (cmpI (e.s.no) t)) (by intros; kernel_rfl) (by intros; kernel_rfl) (by intros; kernel_rfl) (by intros; kernel_rfl) (by intros; kernel_rfl) oneNil (fun ids w2 hp hf => byno_any e t w2) ?_
    by_cases hc : e.s.no < t
    · refine br_T (decide (cmpI (e.s.no) t < 0)) (by kernel_rfl) (decide_eq_true (by unfold cmpI; rw [if_pos hc]; decide)) ?_
      refine again_V ⟨[((h + 1 : Nat) : Int), (j : Int)], [], [], [], []⟩ rfl (fun ids => Eq.trans (b := ⟨[IntKind.i64.wrap (IntKind.i64.wrap (ifn .shr .u64 (IntKind.u64.wrap (IntKind.i64.wrap ((i : Int) + (j : Int)))) 1) + 1), (j : Int)], [], [], [], []⟩) (by kernel_rfl) (by rw [hv, wrap_i64 (by omega)]; rfl)) HX.nil (fun w2 ids hf => HXok.none _ _) ⟨⟨h + 1, j, by omega, hj, fun x k hx hk2 => ?_, h2, rfl, rfl⟩, ?_⟩
      · rcases Nat.lt_or_ge x h with q | q
        · exact Int.lt_trans (hr x h k _ q hk2 hk) hc
        · have : x = h := by omega
          subst this; rw [hk] at hk2; cases hk2; exact hc
      · show ((j : Int) - ((h + 1 : Nat) : Int)).toNat < ((j : Int) - (i : Int)).toNat
        omega
    · refine br_F (decide (cmpI (e.s.no) t < 0)) (by kernel_rfl) (decide_eq_false (by unfold cmpI; rw [if_neg hc]; split <;> decide)) ?_
      refine again_V ⟨[(i : Int), (h : Int)], [], [], [], []⟩ rfl (fun ids => Eq.trans (b := ⟨[(i : Int), IntKind.i64.wrap (ifn .shr .u64 (IntKind.u64.wrap (IntKind.i64.wrap ((i : Int) + (j : Int)))) 1)], [], [], [], []⟩) (by kernel_rfl) (by rw [hv])) HX.nil (fun w2 ids hf => HXok.none _ _) ⟨⟨i, h, hb.1, by omega, h1, fun x k hx hk2 => ?_, rfl, rfl⟩, ?_⟩
      · rcases Nat.lt_or_ge h x with q | q
        · have := hr h x _ k q hk hk2
          omega
        · have : x = h := by omega
          subst this; rw [hk] at hk2; cases hk2; omega
      · show ((h : Int) - (i : Int)).toNat < ((j : Int) - (i : Int)).toNat
        omega
  · refine br_F (decide ((i : Int) < (j : Int))) (by kernel_rfl) (decide_eq_false (by omega)) ?_
    obtain rfl : i = j := by omega
    have hpos : posI ks t = i := posI_of hj h1 h2
    unfold hitI
    rw [hpos]
    by_cases hn : i < es.length
    · refine br_T (decide ((i : Int) < (es.length : Int))) (by kernel_rfl) (decide_eq_true (by omega)) ?_
      obtain ⟨e, he⟩ : ∃ e, es[i]? = some e := ⟨_, List.getElem?_eq_getElem hn⟩
      have hk := hkg he
      obtain ⟨s1, q1⟩ := flat_part se_len H he (o := 0) e.cells (fun j u hj => by rw [Nat.zero_add]; exact hj) (by simp [SE.cells])
      refine need_k (a.isSome = true ∧ 0 ≤ (i : Int) ∧ (i : Int) < (es.length : Int)) (by kernel_rfl) ⟨s1, by omega, by omega⟩ ?_
      refine node_ld0 (k := ⟨3, 0, 0, 2, 1⟩) ⟨[e.s.no, e.s.ack], [], [], [e.s.kept.length, e.c], [e.a]⟩ (.pointer (some (((a.getD ⟨0, 0, none⟩).add (i * 3)).add 0))) e.cells (by intros; kernel_rfl) (by intros; kernel_rfl) (q1 _ (fun q => q)) ⟨rfl, oneNil⟩ (by kernel_rfl) oneNil ?_
      refine node_P ⟨[cmpI (e.s.no) t], [], [], [], []⟩ #[.agg e.cells.toArray, .int .i64 t] (.int .i64 (cmpI (e.s.no) t)) (by intros; kernel_rfl) (by intros; kernel_rfl) (by intros; kernel_rfl) (by intros; kernel_rfl) (by intros; kernel_rfl) oneNil (fun ids w2 hp hf => byno_any e t w2) ?_
      have hd : decide (ks[i]? = some t) = (cmpI (e.s.no) t == 0) := by
        rw [hk]
        unfold cmpI
        by_cases q1 : e.s.no < t
        · rw [if_pos q1]; exact decide_eq_false (fun q => by cases q; omega)
        · rw [if_neg q1]
          by_cases q2 : e.s.no > t
          · rw [if_pos q2]; exact decide_eq_false (fun q => by cases q; omega)
          · rw [if_neg q2]; exact decide_eq_true (congrArg some (by omega))
      rw [hd]
      exact pure_done (by intros; kernel_rfl)
    · refine br_F (decide ((i : Int) < (es.length : Int))) (by kernel_rfl) (decide_eq_false (by omega)) ?_
      rw [List.getElem?_eq_none (by omega), decide_eq_false (by simp)]
      exact pure_done (by intros; kernel_rfl)
theorem bsk_any (a : Option Addr) (cap : Nat) (es : List KpD) (t : Int) (w : World) (H : Cells w a (kcells es)) (hr : Rise (es.map fun e => e.seq)) (hl : es.length ≤ 1000000) :
    Calls Try.prog 24 #[.slice a es.length cap, .int .i64 t, .func (.func 25) #[] #[]] w (PureAt w (.tuple #[.int .i64 (posI (es.map fun e => e.seq) t : Int), .bool (hitI (es.map fun e => e.seq) t)])) := by
  refine calls_at (tab_ok _) Try.func24 rfl tBsK (ρ := ⟨[t], [], [], [es.length, cap], [a]⟩) (ids := []) (hx := HX.nil) rfl (Facts.initP rfl oneNil) ?_
  obtain ⟨ks, eks⟩ : ∃ k, k = es.map fun e => e.seq := ⟨_, rfl⟩
  rw [← eks] at hr ⊢
  have hkl : ks.length = es.length := by rw [eks, List.length_map]
  have hkg : ∀ {x : Nat} {e : KpD}, es[x]? = some e → ks[x]? = some (e.seq) := fun h => by rw [eks, List.getElem?_map, h]; rfl
  refine loop_i (BsI ks t) (fun vs => ((vs.i.getD 1 0) - (vs.i.getD 0 0)).toNat) (fun ids w2 hp hf => ⟨HX.nil, HXok.none _ _, 0, es.length, Nat.zero_le _, by omega, fun x k h => absurd h (Nat.not_lt_zero _), (fun x k h h2 => by rw [List.getElem?_eq_none (by omega)] at h2; cases h2), rfl, rfl⟩) ?_
  rintro vs hx' hcnt ⟨i, j, hij, hj, h1, h2, rfl, rfl⟩
  by_cases hlt : i < j
  · refine br_T (decide ((i : Int) < (j : Int))) (by kernel_rfl) (decide_eq_true (by omega)) ?_
    obtain ⟨h, eh⟩ : ∃ h : Nat, h = (i + j) / 2 := ⟨_, rfl⟩
    have hv : IntKind.i64.wrap (ifn .shr .u64 (IntKind.u64.wrap (IntKind.i64.wrap ((i : Int) + (j : Int)))) 1) = (h : Int) := by rw [eh]; exact half_i64 (by omega)
    have hb : i ≤ h ∧ h < j := by omega
    obtain ⟨e, he⟩ : ∃ e, es[h]? = some e := ⟨_, List.getElem?_eq_getElem (by omega)⟩
    have hk := hkg he
    obtain ⟨s1, q1⟩ := flat_part kp_len H he (o := 0) e.cells (fun j u hj => by rw [Nat.zero_add]; exact hj) (by simp [KpD.cells])
    refine need_k (a.isSome = true ∧ 0 ≤ IntKind.i64.wrap (ifn .shr .u64 (IntKind.u64.wrap (IntKind.i64.wrap ((i : Int) + (j : Int)))) 1) ∧ IntKind.i64.wrap (ifn .shr .u64 (IntKind.u64.wrap (IntKind.i64.wrap ((i : Int) + (j : Int)))) 1) < (es.length : Int)) (by kernel_rfl) ⟨s1, by rw [hv]; omega, by rw [hv]; omega⟩ ?_
    refine node_ld0 (k := ⟨3, 0, 0, 2, 1⟩) ⟨[e.seq, e.kind, e.re, e.im], [], [], [], []⟩ (.pointer (some (((a.getD ⟨0, 0, none⟩).add ((IntKind.i64.wrap (ifn .shr .u64 (IntKind.u64.wrap (IntKind.i64.wrap ((i : Int) + (j : Int)))) 1)).toNat * 4)).add 0))) e.cells (by intros; kernel_rfl) (by intros; kernel_rfl) (by rw [hv]; exact q1 _ (fun q => q)) ⟨rfl, oneNil⟩ (by kernel_rfl) oneNil ?_
    refine node_P ⟨[cmpI (e.seq) t], [], [], [], []⟩ #[.agg e.cells.toArray, .int .i64 t] (.int .i64 (cmpI (e.seq) t)) (by intros; kernel_rfl) (by intros; kernel_rfl) (by intros; kernel_rfl) (by intros; kernel_rfl) (by intros; kernel_rfl) oneNil (fun ids w2 hp hf => byseq_any e t w2) ?_
    by_cases hc : e.seq < t
    · refine br_T (decide (cmpI (e.seq) t < 0)) (by kernel_rfl) (decide_eq_true (by unfold cmpI; rw [if_pos hc]; decide)) ?_
      refine again_V ⟨[((h + 1 : Nat) : Int), (j : Int)], [], [], [], []⟩ rfl (fun ids => Eq.trans (b := ⟨[IntKind.i64.wrap (IntKind.i64.wrap (ifn .shr .u64 (IntKind.u64.wrap (IntKind.i64.wrap ((i : Int) + (j : Int)))) 1) + 1), (j : Int)], [], [], [], []⟩) (by kernel_rfl) (by rw [hv, wrap_i64 (by omega)]; rfl)) HX.nil (fun w2 ids hf => HXok.none _ _) ⟨⟨h + 1, j, by omega, hj, fun x k hx hk2 => ?_, h2, rfl, rfl⟩, ?_⟩
      · rcases Nat.lt_or_ge x h with q | q
        · exact Int.lt_trans (hr x h k _ q hk2 hk) hc
        · have : x = h := by omega
          subst this; rw [hk] at hk2; cases hk2; exact hc
      · show ((j : Int) - ((h + 1 : Nat) : Int)).toNat < ((j : Int) - (i : Int)).toNat
        omega
    · refine br_F (decide (cmpI (e.seq) t < 0)) (by kernel_rfl) (decide_eq_false (by unfold cmpI; rw [if_neg hc]; split <;> decide)) ?_
      refine again_V ⟨[(i : Int), (h : Int)], [], [], [], []⟩ rfl (fun ids => Eq.trans (b := ⟨[(i : Int), IntKind.i64.wrap (ifn .shr .u64 (IntKind.u64.wrap (IntKind.i64.wrap ((i : Int) + (j : Int)))) 1)], [], [], [], []⟩) (by kernel_rfl) (by rw [hv])) HX.nil (fun w2 ids hf => HXok.none _ _) ⟨⟨i, h, hb.1, by omega, h1, fun x k hx hk2 => ?_, rfl, rfl⟩, ?_⟩
      · rcases Nat.lt_or_ge h x with q | q
        · have := hr h x _ k q hk hk2
          omega
        · have : x = h := by omega
          subst this; rw [hk] at hk2; cases hk2; omega
      · show ((h : Int) - (i : Int)).toNat < ((j : Int) - (i : Int)).toNat
        omega
  · refine br_F (decide ((i : Int) < (j : Int))) (by kernel_rfl) (decide_eq_false (by omega)) ?_
    obtain rfl : i = j := by omega
    have hpos : posI ks t = i := posI_of hj h1 h2
    unfold hitI
    rw [hpos]
    by_cases hn : i < es.length
    · refine br_T (decide ((i : Int) < (es.length : Int))) (by kernel_rfl) (decide_eq_true (by omega)) ?_
      obtain ⟨e, he⟩ : ∃ e, es[i]? = some e := ⟨_, List.getElem?_eq_getElem hn⟩
      have hk := hkg he
      obtain ⟨s1, q1⟩ := flat_part kp_len H he (o := 0) e.cells (fun j u hj => by rw [Nat.zero_add]; exact hj) (by simp [KpD.cells])
      refine need_k (a.isSome = true ∧ 0 ≤ (i : Int) ∧ (i : Int) < (es.length : Int)) (by kernel_rfl) ⟨s1, by omega, by omega⟩ ?_
      refine node_ld0 (k := ⟨3, 0, 0, 2, 1⟩) ⟨[e.seq, e.kind, e.re, e.im], [], [], [], []⟩ (.pointer (some (((a.getD ⟨0, 0, none⟩).add (i * 4)).add 0))) e.cells (by intros; kernel_rfl) (by intros; kernel_rfl) (q1 _ (fun q => q)) ⟨rfl, oneNil⟩ (by kernel_rfl) oneNil ?_
      refine node_P ⟨[cmpI (e.seq) t], [], [], [], []⟩ #[.agg e.cells.toArray, .int .i64 t] (.int .i64 (cmpI (e.seq) t)) (by intros; kernel_rfl) (by intros; kernel_rfl) (by intros; kernel_rfl) (by intros; kernel_rfl) (by intros; kernel_rfl) oneNil (fun ids w2 hp hf => byseq_any e t w2) ?_
      have hd : decide (ks[i]? = some t) = (cmpI (e.seq) t == 0) := by
        rw [hk]
        unfold cmpI
        by_cases q1 : e.seq < t
        · rw [if_pos q1]; exact decide_eq_false (fun q => by cases q; omega)
        · rw [if_neg q1]
          by_cases q2 : e.seq > t
          · rw [if_pos q2]; exact decide_eq_false (fun q => by cases q; omega)
          · rw [if_neg q2]; exact decide_eq_true (congrArg some (by omega))
      rw [hd]
      exact pure_done (by intros; kernel_rfl)
    · refine br_F (decide ((i : Int) < (es.length : Int))) (by kernel_rfl) (decide_eq_false (by omega)) ?_
      rw [List.getElem?_eq_none (by omega), decide_eq_false (by simp)]
      exact pure_done (by intros; kernel_rfl)
/-- Clones: a row in new memory. -/
theorem clk_any (a : Option Addr) (cap : Nat) (l : List KpD) (w : World) (H : Cells w a (kcells l)) (hl : l.length ≤ 1000000) : Calls Try.prog 28 #[.slice a l.length cap] w (RwNew w id 4 48 l.length (kcells l)) := by
  refine calls_at (tab_ok _) Try.func28 rfl tClK (ρ := ⟨[], [], [], [l.length, cap], [a]⟩) (ids := []) (hx := HX.cl a (kcells l)) rfl (Facts.initq rfl oneNil H (cl_sep H)) ?_
  by_cases h : a.isNone = true
  · refine br_T a.isNone (by kernel_rfl) h ?_
    obtain rfl : a = none := by simpa using h
    have e : l = [] := by
      cases l with
      | nil => rfl
      | cons x r => exact absurd (H (by rw [kcells_len, List.length_cons]; omega)).1 (by simp [PlainA])
    subst e
    intro ids w2 hp hf
    exact ⟨none, 0, rfl, HX.rw_nil _ _ _ _, fun k q => absurd rfl q, hf.chg.below⟩
  · refine br_F a.isNone (by kernel_rfl) (by cases a with | none => exact absurd rfl h | some x => rfl) ?_
    refine node_clones (sz := 4) (xs := kcells l) rfl Try.underlying40 info_kp rfl (by decide) 0 rfl (fun _ => a) l.length cap (kcells_len _) (fun ids w2 hp hf => hf.x) (kp_one l) (by unfold maxLen; omega) (by omega) (by intros; kernel_rfl) (by intros; kernel_rfl) (by intros; kernel_rfl) (by kernel_rfl) (by kernel_rfl) (by intros; kernel_rfl) ?_
    intro a' c' hfr ids w2 hp hf
    exact ⟨a', c', by kernel_rfl, hf.x.2, fun k h1 h2 => (hfr k h1 h2).1, hf.chg.below⟩
theorem clt_any (a : Option Addr) (cap : Nat) (es : List SE) (w : World) (H : Cells w a (secells es)) (hl : es.length ≤ 1000000) : Calls Try.prog 27 #[.slice a es.length cap] w (RwNew w id 3 42 es.length (secells es)) := by
  refine calls_at (tab_ok _) Try.func27 rfl tClT (ρ := ⟨[], [], [], [es.length, cap], [a]⟩) (ids := []) (hx := HX.cl a (secells es)) rfl (Facts.initq rfl oneNil H (cl_sep H)) ?_
  by_cases h : a.isNone = true
  · refine br_T a.isNone (by kernel_rfl) h ?_
    obtain rfl : a = none := by simpa using h
    have e : es = [] := by
      cases es with
      | nil => rfl
      | cons x r => exact absurd (H (by rw [secells_len, List.length_cons]; omega)).1 (by simp [PlainA])
    subst e
    intro ids w2 hp hf
    exact ⟨none, 0, rfl, HX.rw_nil _ _ _ _, fun k q => absurd rfl q, hf.chg.below⟩
  · refine br_F a.isNone (by kernel_rfl) (by cases a with | none => exact absurd rfl h | some x => rfl) ?_
    refine node_clones (sz := 3) (xs := secells es) rfl Try.underlying25 info_se rfl (by decide) 0 rfl (fun _ => a) es.length cap (secells_len _) (fun ids w2 hp hf => hf.x) (se_one es) (by unfold maxLen; omega) (by omega) (by intros; kernel_rfl) (by intros; kernel_rfl) (by intros; kernel_rfl) (by kernel_rfl) (by kernel_rfl) (by intros; kernel_rfl) ?_
    intro a' c' hfr ids w2 hp hf
    exact ⟨a', c', by kernel_rfl, hf.x.2, fun k h1 h2 => (hfr k h1 h2).1, hf.chg.below⟩
end Go.Proofs.Ythgkgllllomeeaa
