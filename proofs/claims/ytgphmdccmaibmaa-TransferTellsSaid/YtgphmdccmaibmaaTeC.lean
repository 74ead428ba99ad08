/- TransferTells: right messages, the reference's sums, any answer. -/
import Derived.Test.YtgphmdccmaibmaaFetO
import Derived.Test.YtgphmdccmaibmaaTeT
import Derived.Test.YtgphmdccmaibmaaTeT2
import Derived.Test.YtgphmdccmaibmaaEng29
namespace Go.Proofs.Ytgphmdccmaibmaa
open Go.ChangeShapes Go.WideShapes Go.ChangeAt Go.RowKit Go.Syn Go.Eng
set_option linter.unusedVariables false
set_option linter.unusedSimpArgs false
set_option maxRecDepth 100000
def mg00 : Value := .agg (msgV 0 0 0 (.slice none 0 0))
theorem uses12 (w : World) : Calls Try.prog 28 #[.int .i64 12] w (PureAt w (.int .i64 262)) := by
  refine calls_at (tab_ok _) Try.func28 rfl tUses12 (ρ := ⟨[], [], [], [], []⟩) (ids := []) rfl (Facts.initP rfl oneNil) (pure_done (by intros; kernel_rfl))
theorem uses10 (w : World) : Calls Try.prog 28 #[.int .i64 10] w (PureAt w (.int .i64 262)) := by
  refine calls_at (tab_ok _) Try.func28 rfl tUses10 (ρ := ⟨[], [], [], [], []⟩) (ids := []) rfl (Facts.initP rfl oneNil) (pure_done (by intros; kernel_rfl))
theorem within_any (x lo hi : Int) (w : World) : Calls Try.prog 29 #[.int .i64 x, .int .i64 lo, .int .i64 hi] w (PureAt w (.bool (decide (lo ≤ x) && decide (x ≤ hi)))) := by
  refine calls_at (tab_ok _) Try.func29 rfl tWithin (ρ := ⟨[x, lo, hi], [], [], [], []⟩) (ids := []) rfl (Facts.initP rfl oneNil) ?_
  by_cases h : lo ≤ x
  · refine br_T (decide (lo ≤ x)) (by kernel_rfl) (decide_eq_true h) ?_
    rw [decide_eq_true h, Bool.true_and]
    exact pure_done (by intros; kernel_rfl)
  · refine br_F (decide (lo ≤ x)) (by kernel_rfl) (decide_eq_false h) ?_
    rw [decide_eq_false h, Bool.false_and]
    exact pure_done (by intros; kernel_rfl)
theorem within_in {x lo hi : Int} (h : lo ≤ x ∧ x ≤ hi) (w : World) : Calls Try.prog 29 #[.int .i64 x, .int .i64 lo, .int .i64 hi] w (PureAt w (.bool true)) := by
  have := within_any x lo hi w
  rw [decide_eq_true h.1, decide_eq_true h.2] at this
  exact this
theorem bare12 (slot low : Int) (a : Option Addr) (n c : Nat) (w : World) : Calls Try.prog 31 #[.agg (msgV 12 slot low (.slice a n c)), .int .i64 262] w (PureAt w mg00) := by
  refine calls_at (tab_ok _) Try.func31 rfl tBare12 (ρ := ⟨[slot, low], [], [], [n, c], [a]⟩) (ids := []) rfl (Facts.initP rfl oneNil) (pure_done (by intros; kernel_rfl))
theorem bare10 (slot low : Int) (a : Option Addr) (n c : Nat) (w : World) : Calls Try.prog 31 #[.agg (msgV 10 slot low (.slice a n c)), .int .i64 262] w (PureAt w mg00) := by
  refine calls_at (tab_ok _) Try.func31 rfl tBare10 (ρ := ⟨[slot, low], [], [], [n, c], [a]⟩) (ids := []) rfl (Facts.initP rfl oneNil) (pure_done (by intros; kernel_rfl))
theorem empty00 (w : World) : Calls Try.prog 30 #[mg00] w (PureAt w (.bool true)) := by
  refine calls_at (tab_ok _) Try.func30 rfl tEmpty0 (ρ := ⟨[], [], [], [], []⟩) (ids := []) rfl (Facts.initP rfl oneNil) ?_
  repeat' (first | exact pure_done (by intros; kernel_rfl) | refine br_t (by kernel_rfl) ?_ | refine br_f (by kernel_rfl) ?_)
theorem mchk12 (slot low : Int) (a : Option Addr) (n c : Nat) (hs : 0 ≤ slot ∧ slot ≤ 1099511627776) (hl : 0 ≤ low ∧ low ≤ 1099511627776) (hn : n ≤ 1024) (w : World) : Calls Try.prog 20 #[.agg (msgV 12 slot low (.slice a n c))] w (PureAt w (.int .i64 0)) := by
  refine calls_at (tab_ok _) Try.func20 rfl tMChk12 (ρ := ⟨[slot, low], [], [], [n, c], [a]⟩) (ids := []) rfl (Facts.initP rfl oneNil) ?_
  refine node_P ⟨[262], [], [], [], []⟩ #[.int .i64 12] (.int .i64 262) (by intros; kernel_rfl) (by intros; kernel_rfl) (by intros; kernel_rfl) (by intros; kernel_rfl) (by intros; kernel_rfl) oneNil (fun ids w2 hp hf => uses12 w2) ?_
  refine ⟨fun vs hx => vs = ⟨[0], [], [], [], []⟩ ∧ hx = HX.nil, br_f (by kernel_rfl) (again_V ⟨[0], [], [], [], []⟩ rfl (by intros; kernel_rfl) HX.nil (fun w2 ids hf => HXok.none _ _) ⟨rfl, rfl⟩), ?_⟩
  rintro vs hx hcnt ⟨rfl, rfl⟩
  refine br_f (by kernel_rfl) ?_
  refine node_P ⟨[], [true], [], [], []⟩ #[.int .i64 0, .int .i64 0, .int .i64 9] (.bool true) (by intros; kernel_rfl) (by intros; kernel_rfl) (by intros; kernel_rfl) (by intros; kernel_rfl) (by intros; kernel_rfl) oneNil (fun ids w2 hp hf => within_in (by decide) w2) (br_f (by kernel_rfl) ?_)
  refine node_P ⟨[], [true], [], [], []⟩ #[.int .i64 0, .int .i64 0, .int .i64 9] (.bool true) (by intros; kernel_rfl) (by intros; kernel_rfl) (by intros; kernel_rfl) (by intros; kernel_rfl) (by intros; kernel_rfl) oneNil (fun ids w2 hp hf => within_in (by decide) w2) (br_f (by kernel_rfl) ?_)
  refine node_P ⟨[], [true], [], [], []⟩ #[.int .i64 0, .int .i64 0, .int .i64 1099511627776] (.bool true) (by intros; kernel_rfl) (by intros; kernel_rfl) (by intros; kernel_rfl) (by intros; kernel_rfl) (by intros; kernel_rfl) oneNil (fun ids w2 hp hf => within_in (by decide) w2) (br_f (by kernel_rfl) ?_)
  refine node_P ⟨[0, 0, 0, 0, 0, 0, 0, 0, 0, 0, 0, 0, 0, 0, 0, 0, 0, 0, 0, 0, 0], [], [], [0, 0, 0, 0, 0, 0, 0, 0], [none, none, none, none]⟩ #[.agg (msgV 12 slot low (.slice a n c)), .int .i64 262] mg00 (by intros; kernel_rfl) (by intros; kernel_rfl) (by intros; kernel_rfl) (by intros; kernel_rfl) (by intros; kernel_rfl) oneNil (fun ids w2 hp hf => bare12 slot low a n c w2) ?_
  refine node_P ⟨[], [true], [], [], []⟩ #[mg00] (.bool true) (by intros; kernel_rfl) (by intros; kernel_rfl) (by intros; kernel_rfl) (by intros; kernel_rfl) (by intros; kernel_rfl) oneNil (fun ids w2 hp hf => empty00 w2) (br_f (by kernel_rfl) ?_)
  refine ⟨fun vs hx => vs = ⟨[], [], [], [], []⟩ ∧ hx = HX.nil, ?_, ?_⟩
  rotate_left
  · rintro vs hx hcnt2 ⟨rfl, rfl⟩
    refine ⟨fun vs hx => vs = ⟨[], [], [], [], []⟩ ∧ hx = HX.nil, br_f (by kernel_rfl) (again_V ⟨[], [], [], [], []⟩ rfl (by intros; kernel_rfl) HX.nil (fun w2 ids hf => HXok.none _ _) ⟨rfl, rfl⟩), ?_⟩
    rintro vs hx hcnt3 ⟨rfl, rfl⟩
    exact br_f (by kernel_rfl) (br_f (by kernel_rfl) (br_f (by kernel_rfl) (br_f (by kernel_rfl) (pure_done (by intros; kernel_rfl)))))
  refine br_t (by kernel_rfl) ?_
  refine node_P ⟨[], [true], [], [], []⟩ #[.int .i64 slot, .int .i64 0, .int .i64 1099511627776] (.bool true) (by intros; kernel_rfl) (by intros; kernel_rfl) (by intros; kernel_rfl) (by intros; kernel_rfl) (by intros; kernel_rfl) oneNil (fun ids w2 hp hf => within_in hs w2) (br_f (by kernel_rfl) ?_)
  refine node_P ⟨[], [true], [], [], []⟩ #[.int .i64 low, .int .i64 0, .int .i64 1099511627776] (.bool true) (by intros; kernel_rfl) (by intros; kernel_rfl) (by intros; kernel_rfl) (by intros; kernel_rfl) (by intros; kernel_rfl) oneNil (fun ids w2 hp hf => within_in hl w2) (br_f (by kernel_rfl) ?_)
  refine node_P ⟨[], [true], [], [], []⟩ #[.int .i64 0, .int .i64 0, .int .i64 1099511627776] (.bool true) (by intros; kernel_rfl) (by intros; kernel_rfl) (by intros; kernel_rfl) (by intros; kernel_rfl) (by intros; kernel_rfl) oneNil (fun ids w2 hp hf => within_in (by decide) w2) (br_f (by kernel_rfl) ?_)
  refine br_F (decide ((n : Int) > 1024)) (by kernel_rfl) (decide_eq_false (by omega)) ?_
  exact again_V ⟨[], [], [], [], []⟩ rfl (by intros; kernel_rfl) HX.nil (fun w2 ids hf => HXok.none _ _) ⟨rfl, rfl⟩
theorem mchk10 (slot low : Int) (a : Option Addr) (n c : Nat) (hs : 0 ≤ slot ∧ slot ≤ 1099511627776) (hl : 0 ≤ low ∧ low ≤ 1099511627776) (hn : n ≤ 1024) (w : World) : Calls Try.prog 20 #[.agg (msgV 10 slot low (.slice a n c))] w (PureAt w (.int .i64 0)) := by
  refine calls_at (tab_ok _) Try.func20 rfl tMChk10 (ρ := ⟨[slot, low], [], [], [n, c], [a]⟩) (ids := []) rfl (Facts.initP rfl oneNil) ?_
  refine node_P ⟨[262], [], [], [], []⟩ #[.int .i64 10] (.int .i64 262) (by intros; kernel_rfl) (by intros; kernel_rfl) (by intros; kernel_rfl) (by intros; kernel_rfl) (by intros; kernel_rfl) oneNil (fun ids w2 hp hf => uses10 w2) ?_
  refine ⟨fun vs hx => vs = ⟨[0], [], [], [], []⟩ ∧ hx = HX.nil, br_f (by kernel_rfl) (again_V ⟨[0], [], [], [], []⟩ rfl (by intros; kernel_rfl) HX.nil (fun w2 ids hf => HXok.none _ _) ⟨rfl, rfl⟩), ?_⟩
  rintro vs hx hcnt ⟨rfl, rfl⟩
  refine br_f (by kernel_rfl) ?_
  refine node_P ⟨[], [true], [], [], []⟩ #[.int .i64 0, .int .i64 0, .int .i64 9] (.bool true) (by intros; kernel_rfl) (by intros; kernel_rfl) (by intros; kernel_rfl) (by intros; kernel_rfl) (by intros; kernel_rfl) oneNil (fun ids w2 hp hf => within_in (by decide) w2) (br_f (by kernel_rfl) ?_)
  refine node_P ⟨[], [true], [], [], []⟩ #[.int .i64 0, .int .i64 0, .int .i64 9] (.bool true) (by intros; kernel_rfl) (by intros; kernel_rfl) (by intros; kernel_rfl) (by intros; kernel_rfl) (by intros; kernel_rfl) oneNil (fun ids w2 hp hf => within_in (by decide) w2) (br_f (by kernel_rfl) ?_)
  refine node_P ⟨[], [true], [], [], []⟩ #[.int .i64 0, .int .i64 0, .int .i64 1099511627776] (.bool true) (by intros; kernel_rfl) (by intros; kernel_rfl) (by intros; kernel_rfl) (by intros; kernel_rfl) (by intros; kernel_rfl) oneNil (fun ids w2 hp hf => within_in (by decide) w2) (br_f (by kernel_rfl) ?_)
  refine node_P ⟨[0, 0, 0, 0, 0, 0, 0, 0, 0, 0, 0, 0, 0, 0, 0, 0, 0, 0, 0, 0, 0], [], [], [0, 0, 0, 0, 0, 0, 0, 0], [none, none, none, none]⟩ #[.agg (msgV 10 slot low (.slice a n c)), .int .i64 262] mg00 (by intros; kernel_rfl) (by intros; kernel_rfl) (by intros; kernel_rfl) (by intros; kernel_rfl) (by intros; kernel_rfl) oneNil (fun ids w2 hp hf => bare10 slot low a n c w2) ?_
  refine node_P ⟨[], [true], [], [], []⟩ #[mg00] (.bool true) (by intros; kernel_rfl) (by intros; kernel_rfl) (by intros; kernel_rfl) (by intros; kernel_rfl) (by intros; kernel_rfl) oneNil (fun ids w2 hp hf => empty00 w2) (br_f (by kernel_rfl) ?_)
  refine ⟨fun vs hx => vs = ⟨[], [], [], [], []⟩ ∧ hx = HX.nil, ?_, ?_⟩
  rotate_left
  · rintro vs hx hcnt2 ⟨rfl, rfl⟩
    refine ⟨fun vs hx => vs = ⟨[], [], [], [], []⟩ ∧ hx = HX.nil, br_f (by kernel_rfl) (again_V ⟨[], [], [], [], []⟩ rfl (by intros; kernel_rfl) HX.nil (fun w2 ids hf => HXok.none _ _) ⟨rfl, rfl⟩), ?_⟩
    rintro vs hx hcnt3 ⟨rfl, rfl⟩
    exact br_f (by kernel_rfl) (br_f (by kernel_rfl) (br_f (by kernel_rfl) (br_f (by kernel_rfl) (pure_done (by intros; kernel_rfl)))))
  refine br_t (by kernel_rfl) ?_
  refine node_P ⟨[], [true], [], [], []⟩ #[.int .i64 slot, .int .i64 0, .int .i64 1099511627776] (.bool true) (by intros; kernel_rfl) (by intros; kernel_rfl) (by intros; kernel_rfl) (by intros; kernel_rfl) (by intros; kernel_rfl) oneNil (fun ids w2 hp hf => within_in hs w2) (br_f (by kernel_rfl) ?_)
  refine node_P ⟨[], [true], [], [], []⟩ #[.int .i64 low, .int .i64 0, .int .i64 1099511627776] (.bool true) (by intros; kernel_rfl) (by intros; kernel_rfl) (by intros; kernel_rfl) (by intros; kernel_rfl) (by intros; kernel_rfl) oneNil (fun ids w2 hp hf => within_in hl w2) (br_f (by kernel_rfl) ?_)
  refine node_P ⟨[], [true], [], [], []⟩ #[.int .i64 0, .int .i64 0, .int .i64 1099511627776] (.bool true) (by intros; kernel_rfl) (by intros; kernel_rfl) (by intros; kernel_rfl) (by intros; kernel_rfl) (by intros; kernel_rfl) oneNil (fun ids w2 hp hf => within_in (by decide) w2) (br_f (by kernel_rfl) ?_)
  refine br_F (decide ((n : Int) > 1024)) (by kernel_rfl) (decide_eq_false (by omega)) ?_
  exact again_V ⟨[], [], [], [], []⟩ rfl (by intros; kernel_rfl) HX.nil (fun w2 ids hf => HXok.none _ _) ⟨rfl, rfl⟩
/-- Empty messages are the same. -/
theorem intsZ (w : World) : Calls Try.prog 40 #[.slice none 0 0, .slice none 0 0] w (PureAt w (.bool true)) := by
  refine calls_at (tab_ok _) Try.func40 rfl tIntsZ (ρ := ⟨[], [], [], [], []⟩) (ids := []) rfl (Facts.initP rfl oneNil) (pure_done (by intros; kernel_rfl))
theorem sameBZ (w : World) : Calls Try.prog 16 #[.slice none 0 0, .slice none 0 0] w (PureAt w (.bool true)) := by
  refine calls_at (tab_ok _) Try.func16 rfl tSameBZ (ρ := ⟨[], [], [], [], []⟩) (ids := []) rfl (Facts.initP rfl oneNil) (pure_done (by intros; kernel_rfl))
theorem sameVsZ (w : World) : Calls Try.prog 27 #[.slice none 0 0, .slice none 0 0] w (PureAt w (.bool true)) := by
  refine calls_at (tab_ok _) Try.func27 rfl tSameVsZ (ρ := ⟨[], [], [], [], []⟩) (ids := []) rfl (Facts.initP rfl oneNil) (pure_done (by intros; kernel_rfl))
def vl00 : Value := .agg #[.int .i64 0, .slice none 0 0, .slice none 0 0]
theorem same6Z (w : World) : Calls Try.prog 26 #[vl00, vl00] w (PureAt w (.bool true)) := by
  refine calls_at (tab_ok _) Try.func26 rfl tSame6Z (ρ := ⟨[], [], [], [], []⟩) (ids := []) rfl (Facts.initP rfl oneNil) ?_
  refine node_P ⟨[], [true], [], [], []⟩ #[.slice none 0 0, .slice none 0 0] (.bool true) (by intros; kernel_rfl) (by intros; kernel_rfl) (by intros; kernel_rfl) (by intros; kernel_rfl) (by intros; kernel_rfl) oneNil (fun ids w2 hp hf => intsZ w2) ?_
  exact br_f (by kernel_rfl) (pure_done (by intros; kernel_rfl))
theorem sameMZ (w : World) : Calls Try.prog 19 #[mg00, mg00] w (PureAt w (.bool true)) := by
  refine calls_at (tab_ok _) Try.func19 rfl tSameMZ (ρ := ⟨[], [], [], [], []⟩) (ids := []) rfl (Facts.initP rfl oneNil) ?_
  refine node_P ⟨[], [true], [], [], []⟩ #[vl00, vl00] (.bool true) (by intros; kernel_rfl) (by intros; kernel_rfl) (by intros; kernel_rfl) (by intros; kernel_rfl) (by intros; kernel_rfl) oneNil (fun ids w2 hp hf => same6Z w2) (br_t (by kernel_rfl) ?_)
  refine node_P ⟨[], [true], [], [], []⟩ #[.slice none 0 0, .slice none 0 0] (.bool true) (by intros; kernel_rfl) (by intros; kernel_rfl) (by intros; kernel_rfl) (by intros; kernel_rfl) (by intros; kernel_rfl) oneNil (fun ids w2 hp hf => sameVsZ w2) (br_t (by kernel_rfl) ?_)
  exact node_P ⟨[], [true], [], [], []⟩ #[.slice none 0 0, .slice none 0 0] (.bool true) (by intros; kernel_rfl) (by intros; kernel_rfl) (by intros; kernel_rfl) (by intros; kernel_rfl) (by intros; kernel_rfl) oneNil (fun ids w2 hp hf => sameBZ w2) (pure_done (by intros; kernel_rfl))
/-- The reference's sum. -/
theorem sum_same (h c : Int) : ifn .add .u64 (ifn .mul .u64 (ifn .xor .u64 h c) 435) (ifn .shl .u64 (ifn .xor .u64 h c) 40) = ifn .mul .u64 (ifn .xor .u64 h c) 1099511628211 := by
  generalize ifn .xor .u64 h c = x
  show (x * 435 % 18446744073709551616 + x * 2 ^ min (40 : Int).toNat 64 % 18446744073709551616) % 18446744073709551616 = x * 1099511628211 % 18446744073709551616
  rw [show (2 : Int) ^ min (40 : Int).toNat 64 = 1099511627776 by decide]
  omega
def QsI (bs : List Int) (vs : Vals) (hx : HX) : Prop := ∃ k : Nat, k ≤ bs.length ∧ vs = ⟨[(k : Int), sumB (bs.take k)], [], [], [], []⟩ ∧ hx = HX.nil
theorem qsum02 (a : Option Addr) (cap : Nat) (bs : List Int) (w : World) (H : Cells w a (bcells bs)) (hl : bs.length ≤ 140737488355328) : Calls Try.prog 39 #[.slice a bs.length cap] w (PureAt w (.int .u64 (sumB bs))) := by
  refine calls_at (tab_ok _) Try.func39 rfl tQSum (ρ := ⟨[], [], [], [bs.length, cap], [a]⟩) (ids := []) (hx := HX.nil) rfl (Facts.initP rfl oneNil) ?_
  refine loop_i (QsI bs) (fun vs => bs.length - (vs.i.headD 0).toNat) (fun ids w2 hp hf => ⟨HX.nil, HXok.none _ _, 0, by omega, rfl, rfl⟩) ?_
  rintro vs hx' hcnt ⟨k, hk1, rfl, rfl⟩
  have hwk : IntKind.i64.wrap ((k : Int) + 1) = ((k + 1 : Nat) : Int) := by rw [wrap_i64 (by omega)]; omega
  by_cases hk : k < bs.length
  · refine br_T (decide ((k : Int) < (bs.length : Int))) (by kernel_rfl) (decide_eq_true (by omega)) ?_
    obtain ⟨c, hc⟩ : ∃ b, bs[k]? = some b := ⟨_, List.getElem?_eq_getElem hk⟩
    obtain ⟨s1, c1⟩ := b_elt H hc
    refine need_k (a.isSome = true ∧ (0 : Int) ≤ k ∧ (k : Int) < bs.length) (by kernel_rfl) ⟨s1, by omega, by omega⟩ ?_
    refine node_ld0 (k := ⟨2, 0, 0, 2, 1⟩) ⟨[c], [], [], [], []⟩ (.pointer (some (((a.getD ⟨0, 0, none⟩).add (k * 1)).add 0))) [.int .u8 c] (by intros; kernel_rfl) (by intros; kernel_rfl) (c1 _ (fun q => q)) ⟨rfl, oneNil⟩ (by kernel_rfl) oneNil ?_
    refine again_V ⟨[((k + 1 : Nat) : Int), sumB (bs.take (k + 1))], [], [], [], []⟩ rfl (fun ids => Eq.trans (b := ⟨[IntKind.i64.wrap ((k : Int) + 1), ifn .add .u64 (ifn .mul .u64 (ifn .xor .u64 (sumB (bs.take k)) (IntKind.u64.wrap c)) 435) (ifn .shl .u64 (ifn .xor .u64 (sumB (bs.take k)) (IntKind.u64.wrap c)) 40)], [], [], [], []⟩) (by kernel_rfl) (by rw [hwk, sum_same, sum_step hc]; rfl)) _ (fun w2 ids hf => ⟨hf.x, hf.sep⟩) ⟨⟨k + 1, by omega, rfl, rfl⟩, ?_⟩
    show bs.length - (((k + 1 : Nat) : Int)).toNat < bs.length - ((k : Int)).toNat
    omega
  · refine br_F (decide ((k : Int) < (bs.length : Int))) (by kernel_rfl) (decide_eq_false (by omega)) ?_
    obtain rfl : k = bs.length := by omega
    rw [show sumB bs = sumB (bs.take bs.length) by rw [List.take_length]]
    exact pure_done (by intros; kernel_rfl)
theorem copyb_own (a : Option Addr) (cap : Nat) (bs : List Int) (w : World) (H : Cells w a (bcells bs)) (hl : bs.length ≤ 140737488355328) : Calls Try.prog 11 #[.slice a bs.length cap] w (NewO w id bs) := by
  refine calls_at (tab_ok _) Try.func11 rfl tCopyB (ρ := ⟨[], [], [], [bs.length, cap], [a]⟩) (ids := []) (hx := HX.cl a (bcells bs)) rfl (Facts.initq rfl oneNil H (cl_sep H)) ?_
  refine node_makeS Try.underlying22 info_byte rfl bs.length (fun _ => rfl) (fun _ => rfl) (by omega) (by unfold maxLen; omega) (fun _ _ => rfl) rfl rfl (fun _ => rfl) ?_
  intro i hiW hiF
  refine loop_i (CpI a bs i) (fun vs => bs.length - (vs.i.headD 0).toNat) (fun ids w2 hp hf => ⟨_, ⟨hf.x, hf.sep⟩, 0, by omega, rfl, rfl⟩) ?_
  rintro vs hx' hcnt ⟨k, hk1, rfl, rfl⟩
  have hwk : IntKind.i64.wrap ((k : Int) + 1) = ((k + 1 : Nat) : Int) := by rw [wrap_i64 (by omega)]; omega
  by_cases hk : k < bs.length
  · refine br_t (show decide ((k : Int) < (bs.length : Int)) = true by simpa using hk) ?_
    obtain ⟨b, hb⟩ : ∃ b, bs[k]? = some b := ⟨_, List.getElem?_eq_getElem hk⟩
    obtain ⟨s1, c1⟩ := b_elt H hb
    refine need_i ⟨s1, (show (0 : Int) ≤ k by omega), (show (k : Int) < bs.length by omega)⟩ ?_
    refine ⟨⟨[b], [], [], [], []⟩, fun ids => c1 _ (fun e => e), ⟨rfl, oneNil⟩, ?_⟩
    refine need_i ⟨rfl, (show (0 : Int) ≤ k by omega), (show (k : Int) < bs.length by omega)⟩ ?_
    refine node_stores (sz := 1) (some ⟨i, 0, none⟩) bs.length bs.length _ [.int .u8 b] k 0 (.int .u8 b) (by kernel_rfl) (fun _ => rfl) (fun _ => rfl) rfl (by simp [Value.oneCell']) (by simp; omega) (by simp) (fun q hq hab hF => ?_) (fun q hq hab => ?_) rfl rfl rfl ?_
    · cases hab; exact hiF hF
    · cases hab; exact .inl hiW
    · rw [Nat.mul_one, Nat.add_zero, rep_spl bs k b hb]
      intro ids w2 hp hf
      refine ⟨_, ⟨hf.x, hf.sep⟩, _, rfl, ⟨k + 1, by omega, ?_, rfl⟩, ?_⟩
      · show (⟨[IntKind.i64.wrap ((k : Int) + 1)], [], [], [], []⟩ : Vals) = _
        rw [hwk]
      · show bs.length - (IntKind.i64.wrap ((k : Int) + 1)).toNat < bs.length - ((k : Int)).toNat
        rw [hwk]; omega
  · refine br_f (show decide ((k : Int) < (bs.length : Int)) = false by simpa using hk) ?_
    intro ids w2 hp hf
    have hx2 := hf.x.2
    rw [List.take_of_length_le (by omega), show bs.length - k = 0 by omega, List.replicate_zero, List.append_nil] at hx2
    exact ⟨some ⟨i, 0, none⟩, bs.length, rfl, hx2, fun k _ h2 => by cases h2; exact hiW, hf.chg.below⟩
/-- The eight bytes, one after the other. -/
def hK (h : Int) : Nat → Int
  | 0 => h
  | k + 1 => ifn .mul .u64 (hK h k) 256
theorem sumStep_in (h c : Int) : 0 ≤ sumStep h c ∧ sumStep h c < 18446744073709551616 := by
  unfold sumStep
  show 0 ≤ ifn .xor .u64 h (IntKind.u64.wrap c) * 1099511628211 % 18446744073709551616 ∧ ifn .xor .u64 h (IntKind.u64.wrap c) * 1099511628211 % 18446744073709551616 < 18446744073709551616
  omega
theorem sumB_in (bs : List Int) : 0 ≤ sumB bs ∧ sumB bs < 18446744073709551616 := by
  unfold sumB
  have : ∀ (l : List Int) (h : Int), (0 ≤ h ∧ h < 18446744073709551616) → 0 ≤ l.foldl sumStep h ∧ l.foldl sumStep h < 18446744073709551616 := fun l => by
    induction l with
    | nil => exact fun h hh => hh
    | cons x r ih => exact fun h _ => ih _ (sumStep_in h x)
  exact this bs _ (by decide)
theorem hK_in {h : Int} (hh : 0 ≤ h ∧ h < 18446744073709551616) : ∀ k, 0 ≤ hK h k ∧ hK h k < 18446744073709551616
  | 0 => hh
  | k + 1 => by
    show 0 ≤ hK h k * 256 % 18446744073709551616 ∧ hK h k * 256 % 18446744073709551616 < 18446744073709551616
    omega
theorem hK_val {h : Int} (hh : 0 ≤ h ∧ h < 18446744073709551616) : ∀ k, hK h k = h * 256 ^ k % 18446744073709551616
  | 0 => by show h = h * 1 % _; omega
  | k + 1 => by
    show hK h k * 256 % 18446744073709551616 = _
    rw [hK_val hh k, Int.pow_succ, ← Int.mul_assoc]
    generalize h * 256 ^ k = x
    omega
theorem byte_k {h : Int} (hh : 0 ≤ h ∧ h < 18446744073709551616) {k : Nat} (hk : k < 8) : (eightB h)[k]? = some (IntKind.u8.wrap (ifn .quo .u64 (hK h k) 72057594037927936)) := by
  have e : ∀ x : Int, 0 ≤ x ∧ x < 18446744073709551616 → ifn .quo .u64 x 72057594037927936 = x / 72057594037927936 := fun x hx => by
    show x.tdiv 72057594037927936 % 18446744073709551616 = _
    rw [Int.tdiv_eq_ediv_of_nonneg hx.1]
    omega
  have s : ∀ (n : Nat), n < 64 → ifn .shr .u64 h (n : Int) = h / 2 ^ n := fun n hn => by
    show h.fdiv (2 ^ min (n : Int).toNat 64) = _
    rw [Int.toNat_natCast, Nat.min_eq_left (by omega), Int.fdiv_eq_ediv_of_nonneg _ (Int.le_of_lt (Int.pow_pos (by decide)))]
  have b : ∀ (j : Nat) (d : Nat), j < 8 → d = 56 - 8 * j → ifn .sub .i64 56 (ifn .mul .i64 8 (j : Int)) = (d : Int) := fun j d hj hd => by
    show IntKind.i64.wrap (56 - IntKind.i64.wrap (8 * (j : Int))) = _
    rw [wrap_i64 (x := 8 * (j : Int)) (by omega), wrap_i64 (by omega)]; omega
  have w8 : ∀ x y : Int, x % 256 = y % 256 → IntKind.u8.wrap x = IntKind.u8.wrap y := fun x y q => q
  rw [e _ (hK_in hh k), hK_val hh k]
  obtain ⟨h0, h1⟩ := hh
  have go : ∀ (j d : Nat), j < 8 → d = 56 - 8 * j → (h / 2 ^ d) % 256 = (h * 256 ^ j % 18446744073709551616 / 72057594037927936) % 256 → some (IntKind.u8.wrap (ifn .shr .u64 h (ifn .sub .i64 56 (ifn .mul .i64 8 (j : Int))))) = some (IntKind.u8.wrap (h * 256 ^ j % 18446744073709551616 / 72057594037927936)) := fun j d hj hd q => by
    rw [b j d hj hd, s d (by omega)]; exact congrArg some (w8 _ _ q)
  match k, hk with
  | 0, _ => exact go 0 56 (by decide) (by decide) (by rw [show (2 : Int) ^ 56 = 72057594037927936 by decide, show (256 : Int) ^ 0 = 1 by decide]; omega)
  | 1, _ => exact go 1 48 (by decide) (by decide) (by rw [show (2 : Int) ^ 48 = 281474976710656 by decide, show (256 : Int) ^ 1 = 256 by decide]; omega)
  | 2, _ => exact go 2 40 (by decide) (by decide) (by rw [show (2 : Int) ^ 40 = 1099511627776 by decide, show (256 : Int) ^ 2 = 65536 by decide]; omega)
  | 3, _ => exact go 3 32 (by decide) (by decide) (by rw [show (2 : Int) ^ 32 = 4294967296 by decide, show (256 : Int) ^ 3 = 16777216 by decide]; omega)
  | 4, _ => exact go 4 24 (by decide) (by decide) (by rw [show (2 : Int) ^ 24 = 16777216 by decide, show (256 : Int) ^ 4 = 4294967296 by decide]; omega)
  | 5, _ => exact go 5 16 (by decide) (by decide) (by rw [show (2 : Int) ^ 16 = 65536 by decide, show (256 : Int) ^ 5 = 1099511627776 by decide]; omega)
  | 6, _ => exact go 6 8 (by decide) (by decide) (by rw [show (2 : Int) ^ 8 = 256 by decide, show (256 : Int) ^ 6 = 281474976710656 by decide]; omega)
  | 7, _ => exact go 7 0 (by decide) (by decide) (by rw [show (2 : Int) ^ 0 = 1 by decide, show (256 : Int) ^ 7 = 72057594037927936 by decide]; omega)
end Go.Proofs.Ytgphmdccmaibmaa
