/- Sums of bytes, what is sealed. -/
import Derived.Test.YtgphmdccmaibmaaEng28
import Derived.Test.YtgphmdccmaibmaaBytes
import Derived.Test.YtgphmdccmaibmaaTr
namespace Go.Proofs.Ytgphmdccmaibmaa
open Go.ChangeShapes Go.WideShapes Go.ChangeAt Go.RowKit Go.Syn Go.Eng
set_option linter.unusedVariables false
set_option linter.unusedSimpArgs false
def sumStep (h c : Int) : Int := ifn .mul .u64 (ifn .xor .u64 h (IntKind.u64.wrap c)) 1099511628211
def sumB (bs : List Int) : Int := bs.foldl sumStep 14695981039346656037
def eightB (h : Int) : List Int := [IntKind.u8.wrap (ifn .shr .u64 h (ifn .sub .i64 56 (ifn .mul .i64 8 0))), IntKind.u8.wrap (ifn .shr .u64 h (ifn .sub .i64 56 (ifn .mul .i64 8 1))), IntKind.u8.wrap (ifn .shr .u64 h (ifn .sub .i64 56 (ifn .mul .i64 8 2))), IntKind.u8.wrap (ifn .shr .u64 h (ifn .sub .i64 56 (ifn .mul .i64 8 3))), IntKind.u8.wrap (ifn .shr .u64 h (ifn .sub .i64 56 (ifn .mul .i64 8 4))), IntKind.u8.wrap (ifn .shr .u64 h (ifn .sub .i64 56 (ifn .mul .i64 8 5))), IntKind.u8.wrap (ifn .shr .u64 h (ifn .sub .i64 56 (ifn .mul .i64 8 6))), IntKind.u8.wrap (ifn .shr .u64 h (ifn .sub .i64 56 (ifn .mul .i64 8 7)))]
def sealB (bs : List Int) : List Int := bs ++ eightB (sumB bs)
theorem sealB_len (bs : List Int) : (sealB bs).length = bs.length + 8 := by unfold sealB eightB; simp
theorem sealB_drop (bs : List Int) : (sealB bs).drop bs.length = eightB (sumB bs) := by unfold sealB; simp
theorem sum_step {bs : List Int} {k : Nat} {b : Int} (h : bs[k]? = some b) : sumB (bs.take (k + 1)) = sumStep (sumB (bs.take k)) b := by
  unfold sumB
  rw [List.take_add_one, h]
  simp
def SumI (bs : List Int) (vs : Vals) (hx : HX) : Prop := ∃ k : Nat, k ≤ bs.length ∧ vs = ⟨[(k : Int), sumB (bs.take k)], [], [], [], []⟩ ∧ hx = HX.nil
theorem sum_any (b : Nat) (a : Option Addr) (cap : Nat) (bs : List Int) (w : World) (hb : Blk w b [.slice a bs.length cap] 22) (H : Cells w a (bcells bs)) (hne : bs ≠ [] → blk a ≠ b) (hl : bs.length ≤ 140737488355328) :
    Calls Try.prog 38 #[.slice (some ⟨b, 0, none⟩) 1 1] w (PureAt w (.int .u64 (sumB bs))) := by
  refine calls_at (tab_ok _) Try.func38 rfl tSum (ρ := ⟨[], [], [], [bs.length, cap], [a]⟩) (ids := [b]) (hx := HX.nil) (M := fun x => x = b) rfl (Facts.initx rfl oneNil hb rfl rfl trivial (fun k hk => hk.elim)) ?_
  refine loop_i (SumI bs) (fun vs => bs.length - (vs.i.headD 0).toNat) (fun ids w2 hp hf => ⟨HX.nil, HXok.none _ _, 0, by omega, rfl, rfl⟩) ?_
  rintro vs hx' hcnt ⟨k, hk1, rfl, rfl⟩
  have hwk : IntKind.i64.wrap ((k : Int) + 1) = ((k + 1 : Nat) : Int) := by rw [wrap_i64 (by omega)]; omega
  by_cases hk : k < bs.length
  · refine br_t (show decide ((k : Int) < (bs.length : Int)) = true by simpa using hk) ?_
    obtain ⟨c, hc⟩ : ∃ b, bs[k]? = some b := ⟨_, List.getElem?_eq_getElem hk⟩
    obtain ⟨s1, c1⟩ := b_elt H hc
    refine need_i ⟨s1, (show (0 : Int) ≤ k by omega), (show (k : Int) < bs.length by omega)⟩ ?_
    have hnb : (a.getD ⟨0, 0, none⟩).block ≠ b := by
      have h1 := (H (by rw [bcells_len]; omega)).1
      have h2 := hne (by intro e; subst e; simp at hk)
      cases a with
      | none => simp [PlainA] at h1
      | some ad => exact h2
    refine ⟨⟨[c], [], [], [], []⟩, fun ids => c1 _ hnb, ⟨rfl, oneNil⟩, ?_⟩
    intro ids w2 hp hf
    refine ⟨HX.nil, HXok.none _ _, _, rfl, ⟨k + 1, by omega, ?_, rfl⟩, ?_⟩
    · rw [sum_step hc, ← hwk]; rfl
    · show bs.length - (IntKind.i64.wrap ((k : Int) + 1)).toNat < bs.length - ((k : Int)).toNat
      rw [hwk]; omega
  · refine br_f (show decide ((k : Int) < (bs.length : Int)) = false by simpa using hk) ?_
    intro ids w2 hp hf
    refine ⟨?_, (hf.chg.same ?_).below⟩
    · show Ending.returned (.int .u64 (sumB (bs.take k))) = _
      rw [List.take_of_length_le (by omega)]
    · have := hf.blkAt 0 rfl
      rw [idAt0 hp] at this
      exact this.trans hb.symm
theorem eight_any (h : Int) (w : World) : Calls Try.prog 37 #[.int .u64 h] w (PureAt w (.agg ((bcells (eightB h)).toArray))) := by
  refine calls_at (tab_ok _) Try.func37 rfl tEight (ρ := ⟨[h], [], [], [], []⟩) (ids := []) rfl (Facts.initP rfl oneNil) ?_
  refine need_i (show (0 : Int) ≤ ifn .sub .i64 56 (ifn .mul .i64 8 0) by decide) (need_i (show (0 : Int) ≤ ifn .sub .i64 56 (ifn .mul .i64 8 1) by decide) (need_i (show (0 : Int) ≤ ifn .sub .i64 56 (ifn .mul .i64 8 2) by decide) (need_i (show (0 : Int) ≤ ifn .sub .i64 56 (ifn .mul .i64 8 3) by decide) (need_i (show (0 : Int) ≤ ifn .sub .i64 56 (ifn .mul .i64 8 4) by decide) (need_i (show (0 : Int) ≤ ifn .sub .i64 56 (ifn .mul .i64 8 5) by decide) (need_i (show (0 : Int) ≤ ifn .sub .i64 56 (ifn .mul .i64 8 6) by decide) (need_i (show (0 : Int) ≤ ifn .sub .i64 56 (ifn .mul .i64 8 7) by decide) (pure_done fun _ => rfl))))))))
theorem cells_of_blk {w : World} {b ty : Nat} {us : List Value} (h : Blk w b us ty) : Cells w (some ⟨b, 0, none⟩) us := fun h0 => by
  refine ⟨rfl, ?_, fun i u hi => ?_⟩
  · show b < w.heap.size
    rcases Nat.lt_or_ge b w.heap.size with q | q
    · exact q
    · have h2 : w.heap[b]? = _ := h
      rw [Array.getElem?_eq_none q] at h2; cases h2
  · have := cells_blk (o := 0) h i
    rw [Nat.zero_add] at this
    show w.cell? ⟨b, 0 + i, none⟩ = some u
    rw [Nat.zero_add, ← hi]
    exact this
theorem seal_any (a : Option Addr) (cap : Nat) (bs : List Int) (w : World) (H : Cells w a (bcells bs)) (hl : bs.length ≤ 140737488351232) : Calls Try.prog 21 #[.slice a bs.length cap] w (NewD w id (sealB bs)) := by
  refine calls_at (tab_ok _) Try.func21 rfl tSeal (ρ := ⟨[], [], [], [bs.length, cap], [a]⟩) (ids := []) (hx := HX.cl a (bcells bs)) rfl (Facts.initq rfl oneNil H (cl_sep H)) ?_
  refine node_pure ⟨[sumB bs], [], [], [], []⟩ rfl rfl rfl oneNil (fun ids w2 hp hf => ?_) ?_
  · refine sum_any (idAt ids 0) a cap bs w2 (hf.blkAt 0 rfl) hf.x (fun hne e => ?_) (by omega)
    have h1 := hf.own _ (idAt_mem (n := 0) (by rw [hf.len]; decide))
    rcases h1 with q | q
    · have := (H (by rw [bcells_len]; exact List.length_pos_iff.2 hne)).2.1
      rw [e] at this
      exact absurd this (by simpa using q)
    · exact q
  refine node_val ⟨eightB (sumB bs), [], [], [], []⟩ (fun w => eight_any (sumB bs) w) (fun _ => rfl) (fun _ => rfl) rfl rfl rfl oneNil ?_
  have hel8 : (bcells (eightB (sumB bs))).length = 8 * 1 := rfl
  have fin : ∀ (a' : Option Addr) (cap' : Nat) (ρ' : Env) (m : Mem) (v : SV) (L : Stack) (pre : List Nat) (n : Nat), n = bs.length + 8 → (∀ ids, v.den ρ' ids = .slice a' n cap') → (∀ k, cap' ≠ 0 → abk a' = some k → w.heap.size ≤ k) → (Tree.done v m).holds ⟨Try.prog, w, fun _ => False, NewD w id (sealB bs)⟩ ρ' pre ((HX.cl a (bcells bs)).and (HX.rw 1 5 a' n cap' (bcells bs ++ bcells (eightB (sumB bs))))) L := by
    intro a' cap' ρ' m v L pre n hn hv hk ids w2 hp hf
    subst hn
    have e : bcells bs ++ bcells (eightB (sumB bs)) = bcells (sealB bs) := by unfold sealB bcells; rw [List.map_append]
    refine ⟨a', cap', by rw [hv, sealB_len]; rfl, by rw [← e]; exact rw_cells hf.x.2, fun _ => ?_, by rw [sealB_len]; exact (rw_le hf.x.2).1, hf.chg.below⟩
    have hc : cap' ≠ 0 := by have := (rw_le hf.x.2).1; omega
    obtain ⟨g, _, rfl, _⟩ := rw_open hf.x.2 hc
    exact hk g hc rfl
  refine par_i ?_ ?_
  · refine node_appends (xs := []) rfl Try.underlying22 info_byte rfl (by decide) none 0 0 (fun _ => a) bs.length cap (bcells bs) (by simp [bcells_len]) (fun ids w _ _ => HX.rw_nil _ _ _ w) (fun ids w2 hp hf => hf.x) (bcells_one bs) (fun w h => ⟨h, fun _ q => q⟩) (fun k h => absurd rfl h) (fun k h => absurd rfl h) (fun k h => absurd rfl h) (by unfold maxLen; omega) (by omega) (fun _ => rfl) (fun _ _ => rfl) (fun _ _ _ => rfl) rfl rfl (fun _ _ => rfl) ?_
    intro a1 c1 _ hd1 hw1
    simp only [Nat.zero_add, List.nil_append]
    refine node_arr Try.underlying75 info_byte rfl rfl (bn := 1) (fun _ => rfl) (fun _ _ => rfl) rfl rfl (fun _ => rfl) ?_
    intro ids hp hlen
    have hst : ∀ ids' : List Nat, ids <+: ids' → idAt ids' 1 = idAt ids 1 := fun ids' h => idAt_pre h (by rw [hlen]; decide)
    refine node_appends rfl Try.underlying22 info_byte rfl (by decide) a1 bs.length c1 (bcells bs) (fun _ => some ⟨idAt ids 1, 0, none⟩) 8 8 (bcells (eightB (sumB bs))) hel8 (rest := HX.cl a (bcells bs)) (fun ids w _ hf => hf.x.2) (fun ids' w2 hp' hf => ?_) (bcells_one _) (fun w h => ⟨h.1, fun _ q => .inl q⟩) (fun k h1 h2 => .inr ⟨h1, h2⟩) (fun k h1 h2 => hd1 k h1 h2) (fun k h1 h2 => .inl ?_) (by unfold maxLen; omega) (by omega) (fun _ => rfl) (fun _ _ => rfl) (fun _ _ _ => rfl) rfl rfl (fun _ _ => rfl) ?_
    · rw [← hst ids' hp']; exact cells_of_blk (hf.blkAt 1 rfl)
    · exact (hw1 k h1 h2).elim (fun q => absurd rfl q.1) (fun q => q.1)
    intro a2 c2 _ hd2 hw2
    exact fin a2 c2 _ _ _ _ _ _ rfl (fun _ => rfl) (fun k h1 h2 => (hw2 k h1 h2).elim (fun q => (hw1 k q.1 q.2).elim (fun q => absurd rfl q.1) (fun q => q.1)) (fun q => q.1))
  · refine node_arr Try.underlying75 info_byte rfl rfl (bn := 1) (fun _ => rfl) (fun _ _ => rfl) rfl rfl (fun _ => rfl) ?_
    intro ids hp hlen
    have hst : ∀ ids' : List Nat, ids <+: ids' → idAt ids' 1 = idAt ids 1 := fun ids' h => idAt_pre h (by rw [hlen]; decide)
    refine node_appends (xs := []) rfl Try.underlying22 info_byte rfl (by decide) none 0 0 (fun _ => a) bs.length cap (bcells bs) (by simp [bcells_len]) (fun ids w _ _ => HX.rw_nil _ _ _ w) (fun ids w2 hp hf => hf.x) (bcells_one bs) (fun w h => ⟨h, fun _ q => q⟩) (fun k h => absurd rfl h) (fun k h => absurd rfl h) (fun k h => absurd rfl h) (by unfold maxLen; omega) (by omega) (fun _ => rfl) (fun _ _ => rfl) (fun _ _ _ => rfl) rfl rfl (fun _ _ => rfl) ?_
    intro a1 c1 _ hd1 hw1
    simp only [Nat.zero_add, List.nil_append]
    refine node_appends rfl Try.underlying22 info_byte rfl (by decide) a1 bs.length c1 (bcells bs) (fun _ => some ⟨idAt ids 1, 0, none⟩) 8 8 (bcells (eightB (sumB bs))) hel8 (rest := HX.cl a (bcells bs)) (fun ids w _ hf => hf.x.2) (fun ids' w2 hp' hf => ?_) (bcells_one _) (fun w h => ⟨h.1, fun _ q => .inl q⟩) (fun k h1 h2 => .inr ⟨h1, h2⟩) (fun k h1 h2 => hd1 k h1 h2) (fun k h1 h2 => .inl ?_) (by unfold maxLen; omega) (by omega) (fun _ => rfl) (fun _ _ => rfl) (fun _ _ _ => rfl) rfl rfl (fun _ _ => rfl) ?_
    · rw [← hst ids' hp']; exact cells_of_blk (hf.blkAt 1 rfl)
    · exact (hw1 k h1 h2).elim (fun q => absurd rfl q.1) (fun q => q.1)
    intro a2 c2 _ hd2 hw2
    exact fin a2 c2 _ _ _ _ _ _ rfl (fun _ => rfl) (fun k h1 h2 => (hw2 k h1 h2).elim (fun q => (hw1 k q.1 q.2).elim (fun q => absurd rfl q.1) (fun q => q.1)) (fun q => q.1))
end Go.Proofs.Ytgphmdccmaibmaa
