/- TransferTells: the reference's seal, any answer. -/
import Derived.Test.YtgphmdccmaibmaaTeC
namespace Go.Proofs.Ytgphmdccmaibmaa
open Go.ChangeShapes Go.WideShapes Go.ChangeAt Go.RowKit Go.Syn Go.Eng
set_option linter.unusedVariables false
set_option linter.unusedSimpArgs false
set_option maxRecDepth 100000
def QeI (W : World) (bs : List Int) (vs : Vals) (hx : HX) : Prop := ∃ (k : Nat) (a' : Option Addr) (c' : Nat), k ≤ 8 ∧ (∀ j, c' ≠ 0 → abk a' = some j → W.heap.size ≤ j) ∧
  vs = ⟨[(k : Int), hK (sumB bs) k], [], [], [(bs ++ (eightB (sumB bs)).take k).length, c'], [a']⟩ ∧ hx = HX.nil.and (frow a' c' (bs ++ (eightB (sumB bs)).take k))
theorem qseal (a : Option Addr) (cap : Nat) (bs : List Int) (w : World) (H : Cells w a (bcells bs)) (hl : bs.length ≤ 140737488351232) : Calls Try.prog 25 #[.slice a bs.length cap] w (NewD w id (sealB bs)) := by
  refine calls_at (tab_ok _) Try.func25 rfl tQSeal (ρ := ⟨[], [], [], [bs.length, cap], [a]⟩) (ids := []) (hx := HX.nil) rfl (Facts.initP rfl oneNil) ?_
  have keep : ∀ {m : Mem} {ρ : Env} {ids : List Nat} {hx : HX} {w2 : World} {R : Ending → World → Prop}, Facts ⟨Try.prog, w, fun _ => False, R⟩ m ρ ids hx w2 → Cells w2 a (bcells bs) := fun hf => cl_stay H (fun k hk => hf.chg.block k hk (fun q => q))
  refine node_newo (V := id) (bs := bs) #[.slice a bs.length cap] (fun a' c' => ⟨[], [], [], [bs.length, c'], [a']⟩) (by intros; kernel_rfl) (fun ids w2 hp hf => copyb_own a cap bs w2 (keep hf) (by omega)) (by intros; kernel_rfl) (by intros; kernel_rfl) (by intros; kernel_rfl) (by intros; kernel_rfl) (fun _ _ => oneNil) ?_
  intro a1 c1 _ hn1
  obtain ⟨h, eh⟩ : ∃ x, x = sumB bs := ⟨_, rfl⟩
  have hh : 0 ≤ h ∧ h < 18446744073709551616 := by rw [eh]; exact sumB_in bs
  refine node_P ⟨[h], [], [], [], []⟩ #[.slice a bs.length cap] (.int .u64 h) (by intros; kernel_rfl) (by intros; kernel_rfl) (by intros; kernel_rfl) (by intros; kernel_rfl) (by intros; kernel_rfl) oneNil (fun ids w2 hp hf => by rw [eh]; exact qsum02 a cap bs w2 (keep hf) (by omega)) ?_
  have h8 : (eightB h).length = 8 := rfl
  refine loop_i (QeI w bs) (fun vs => 8 - (vs.i.headD 0).toNat) (fun ids w2 hp hf => ⟨HX.nil.and (frow a1 c1 bs), ⟨hf.x, hf.sep⟩, 0, a1, c1, Nat.zero_le _, fun j h1 h2 => (hn1 j h1 h2).1, ?_, ?_⟩) ?_
  · rw [← eh, List.take_zero, List.append_nil]; rfl
  · rw [List.take_zero, List.append_nil]
  rintro vs hx' hcnt ⟨k, a2, c2, hk, hfr, rfl, rfl⟩
  rw [← eh]
  have hpl : (bs ++ (eightB h).take k).length = bs.length + k := by rw [List.length_append, List.length_take, h8]; omega
  by_cases hk8 : k < 8
  · refine br_T (decide ((k : Int) < 8)) (by kernel_rfl) (decide_eq_true (by omega)) ?_
    have hwk : IntKind.i64.wrap ((k : Int) + 1) = ((k + 1 : Nat) : Int) := by rw [wrap_i64 (by omega)]; omega
    obtain ⟨d, ed⟩ : ∃ d, d = IntKind.u8.wrap (ifn .quo .u64 (hK h k) 72057594037927936) := ⟨_, rfl⟩
    have hb := byte_k hh hk8
    rw [← ed] at hb
    have hst : (bs ++ (eightB h).take k) ++ [d] = bs ++ (eightB h).take (k + 1) := by rw [List.take_add_one, hb, List.append_assoc]; rfl
    obtain ⟨pb, epb⟩ : ∃ x, x = bs ++ (eightB h).take k := ⟨_, rfl⟩
    rw [← epb] at hst hpl ⊢
    refine node_pushs (sz := 1) (bytes := 1) (z := .int .u8 0) (vs := [.int .u8 d]) rfl Try.underlying22 info_byte rfl (by decide) a2 pb.length c2 (bcells pb) 0 (by intros; kernel_rfl) (by intros; kernel_rfl) rfl (fun ids => Eq.trans (b := [.int .u8 (IntKind.u8.wrap (ifn .quo .u64 (hK h k) 72057594037927936))]) (by kernel_rfl) (by rw [← ed])) rfl (by simp [Value.oneCell']) (fun j _ _ q => q.elim) (fun j h1 h2 => .inl (hfr j h1 h2)) (by unfold maxLen; omega) (by omega) (by intros; kernel_rfl) (by kernel_rfl) (by kernel_rfl) (by intros; kernel_rfl) ?_
    intro a3 c3 hc3 hd3 hor3
    have hrow : HX.rw 1 5 a3 (pb.length + 1) c3 (bcells pb ++ [.int .u8 d]) = frow a3 c3 (bs ++ (eightB h).take (k + 1)) := by
      rw [← hst]
      unfold frow bcells
      rw [List.map_append, List.length_append]; rfl
    refine holds_eq (show HX.nil.and _ = HX.nil.and _ from congrArg _ hrow) ?_
    refine again_V ⟨[((k + 1 : Nat) : Int), hK h (k + 1)], [], [], [(bs ++ (eightB h).take (k + 1)).length, c3], [a3]⟩ rfl (fun ids => Eq.trans (b := ⟨[IntKind.i64.wrap ((k : Int) + 1), hK h (k + 1)], [], [], [pb.length + 1, c3], [a3]⟩) (by kernel_rfl) (by rw [hwk, ← hst, List.length_append]; rfl)) _ (fun w2 ids hf => ⟨hf.x, hf.sep⟩) ⟨⟨k + 1, a3, c3, by omega, fun j h1 h2 => ?_, by rw [eh], by rw [eh]⟩, ?_⟩
    · rcases hor3 with ⟨q1, q2⟩ | ⟨g, q1, q2, _⟩
      · exact hfr j q1 (q2 ▸ h2)
      · rw [q1] at h2; cases h2; exact q2
    · show 8 - (((k + 1 : Nat) : Int)).toNat < 8 - ((k : Int)).toNat
      omega
  · refine br_F (decide ((k : Int) < 8)) (by kernel_rfl) (decide_eq_false (by omega)) ?_
    obtain rfl : k = 8 := by omega
    have e8 : bs ++ (eightB h).take 8 = sealB bs := by rw [List.take_of_length_le (by rw [h8]; exact Nat.le_refl _), eh]; rfl
    rw [e8]
    intro ids w2 hp hf
    have hle := (rw_le hf.x.2).1
    refine ⟨a2, c2, by kernel_rfl, rw_cells hf.x.2, fun hne => ?_, hle, hf.chg.below⟩
    have hc : c2 ≠ 0 := fun q => hne (List.eq_nil_of_length_eq_zero (by omega))
    obtain ⟨g, _, rfl, _⟩ := rw_open hf.x.2 hc
    exact hfr g hc rfl
theorem qtsum (a : Option Addr) (cap : Nat) (bs : List Int) (w : World) (H : Cells w a (bcells bs)) (hl : bs.length ≤ 140737488351232) : Calls Try.prog 18 #[.slice a bs.length cap] w (NewD w id (eightB (sumB bs))) := by
  refine calls_at (tab_ok _) Try.func18 rfl tQTSum (ρ := ⟨[], [], [], [bs.length, cap], [a]⟩) (ids := []) (hx := HX.cl a (bcells bs)) rfl (Facts.initq rfl oneNil H (cl_sep H)) ?_
  refine node_newd (V := id) (bs := sealB bs) (fun a' c' => ⟨[], [], [], [(sealB bs).length, c'], [a']⟩) (fun ids w2 hp hf => (qseal a cap bs w2 hf.x hl)) (fun _ _ _ => rfl) rfl rfl (fun _ _ => rfl) (fun _ _ => oneNil) ?_
  intro a1 c1 hcc hn1
  refine node_from (l := bs.length) (n := (sealB bs).length) (cap := c1) (sz := 1) a1 Try.underlying22 rfl info_byte (by intros; kernel_rfl) (by intros; kernel_rfl) (by rw [sealB_len]; omega) (by intros; kernel_rfl) (by kernel_rfl) (by kernel_rfl) (by kernel_rfl) ?_
  intro ids w2 hp hf
  have hsl := sealB_len bs
  refine ⟨sliA a1 bs.length c1 1, c1 - bs.length, ?_, ?_, fun _ => ?_, ?_, hf.chg.below⟩
  · show Ending.returned (.slice (sliA a1 bs.length c1 1) ((sealB bs).length - bs.length) (c1 - bs.length)) = _
    rw [hsl, Nat.add_sub_cancel_left]; rfl
  · have := sli_cells hf.x.2 bs.length 8 c1 1 (by rw [bcells_len, hsl]; omega) (by rw [bcells_len]; omega) (by decide)
    rw [Nat.mul_one, bcells_sub, sealB_drop] at this
    exact this
  · rw [blk_sliA]; exact (hn1 (fun e => by have := congrArg List.length e; rw [hsl] at this; simp at this)).1
  · show 8 ≤ _
    omega
theorem ansg_yes (slot : Int) (a : Option Addr) (cap : Nat) (bs : List Int) (i : Mi) (b0 : Option Addr) (n0 d0 : Nat) (b1 : Option Addr) (n1 d1 : Nat) (bv : Option Addr) (nv dv : Nat) (bd : Option Addr) (nd dd : Nat) (n : Nat) (w : World) (H : Cells w a (bcells bs)) (hl : bs.length ≤ 140737488351232) (hcap : bs.length ≤ cap) (hk : i.k = 11) (hs : i.slot = slot) (hlow : i.low = (n : Int)) (hn : n < bs.length) :
    Calls Try.prog 13 #[.int .i64 slot, .slice a bs.length cap, .agg (mgV i (.slice b0 n0 d0) (.slice b1 n1 d1) (.slice bv nv dv) (.slice bd nd dd))] w (NewO w (fun v => .tuple #[.agg (msgV 12 slot n v), .bool true]) ((bs.drop n).take 1024)) := by
  refine calls_at (tab_ok _) Try.func13 rfl tAnsG (ρ := ⟨i.is ++ [slot], [], [], [bs.length, cap, n0, d0, n1, d1, nv, dv, nd, dd], [a, b0, b1, bv, bd]⟩) (ids := []) (hx := HX.cl a (bcells bs)) rfl (Facts.initq rfl oneNil H (cl_sep H)) ?_
  obtain ⟨p, ep⟩ : ∃ p, p = (bs.drop n).take 1024 := ⟨_, rfl⟩
  have hpn : p.length ≠ 0 := by rw [ep, List.length_take, List.length_drop]; omega
  rw [← ep]
  refine node_newo (V := id) (bs := p) #[.slice a bs.length cap, .int .i64 (n : Int)] (fun a' c' => ⟨[], [], [], [p.length, c'], [a']⟩) (fun _ => by rw [← hlow]; kernel_rfl) (fun ids w2 hp hf => by rw [ep]; exact piece_own a cap bs n w2 hf.x hl hcap hn) (by intros; kernel_rfl) (by intros; kernel_rfl) (by intros; kernel_rfl) (by intros; kernel_rfl) (fun _ _ => oneNil) ?_
  intro a1 c1 _ hn1
  refine br_F (i.k != 11) (by kernel_rfl) (by simp [hk]) (br_F (i.slot != slot) (by kernel_rfl) (by simp [hs]) (br_F ((p.length : Int) == 0) (by kernel_rfl) (beq_eq_false_iff_ne.2 (by omega)) ?_))
  intro ids w2 hp hf
  refine ⟨a1, c1, ?_, hf.x.2, fun k h1 h2 => (hn1 k h1 h2).1, hf.chg.below⟩
  rw [← hlow]; kernel_rfl
theorem ansg_no (slot : Int) (a : Option Addr) (cap : Nat) (bs : List Int) (i : Mi) (b0 : Option Addr) (n0 d0 : Nat) (b1 : Option Addr) (n1 d1 : Nat) (bv : Option Addr) (nv dv : Nat) (bd : Option Addr) (nd dd : Nat) (w : World) (H : Cells w a (bcells bs)) (hl : bs.length ≤ 140737488351232) (hcap : bs.length ≤ cap) (hno : ¬ (i.k = 11 ∧ i.slot = slot ∧ 0 ≤ i.low ∧ i.low < (bs.length : Int))) :
    Calls Try.prog 13 #[.int .i64 slot, .slice a bs.length cap, .agg (mgV i (.slice b0 n0 d0) (.slice b1 n1 d1) (.slice bv nv dv) (.slice bd nd dd))] w (PureAt w (.tuple #[mg00, .bool false])) := by
  refine calls_at (tab_ok _) Try.func13 rfl tAnsG (ρ := ⟨i.is ++ [slot], [], [], [bs.length, cap, n0, d0, n1, d1, nv, dv, nd, dd], [a, b0, b1, bv, bd]⟩) (ids := []) (hx := HX.cl a (bcells bs)) rfl (Facts.initq rfl oneNil H (cl_sep H)) ?_
  obtain ⟨p, ep⟩ : ∃ p, p = pieceB bs i.low := ⟨_, rfl⟩
  refine node_newd (V := id) (bs := p) (fun a' c' => ⟨[], [], [], [p.length, c'], [a']⟩) (fun ids w2 hp hf => (show Calls Try.prog 22 #[.slice a bs.length cap, .int .i64 i.low] w2 (NewD w2 id p) by rw [ep]; exact piece_any a cap bs i.low w2 hf.x hl hcap)) (by intros; kernel_rfl) (by intros; kernel_rfl) (by intros; kernel_rfl) (by intros; kernel_rfl) (fun _ _ => oneNil) ?_
  intro a1 c1 _ _
  by_cases h1 : i.k = 11
  case neg => exact br_T (i.k != 11) (by kernel_rfl) (by simpa using h1) (pure_done (by intros; kernel_rfl))
  refine br_F (i.k != 11) (by kernel_rfl) (by simp [h1]) ?_
  by_cases h2 : i.slot = slot
  case neg => exact br_T (i.slot != slot) (by kernel_rfl) (by simpa using h2) (pure_done (by intros; kernel_rfl))
  refine br_F (i.slot != slot) (by kernel_rfl) (by simp [h2]) ?_
  have h0 : p = [] := by rw [ep]; exact if_pos (by omega)
  exact br_T ((p.length : Int) == 0) (by kernel_rfl) (by rw [h0]; rfl) (pure_done (by intros; kernel_rfl))
end Go.Proofs.Ytgphmdccmaibmaa
