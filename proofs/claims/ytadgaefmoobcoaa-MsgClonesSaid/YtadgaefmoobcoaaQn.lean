/- Contracts of the reference's writer. -/
import Derived.Test.YtadgaefmoobcoaaRd2
import Derived.Test.YtadgaefmoobcoaaEng28
namespace Go.Proofs.Ytadgaefmoobcoaa
open Go.ChangeShapes Go.WideShapes Go.ChangeAt Go.RowKit Go.Syn Go.Eng
set_option linter.unusedVariables false
set_option linter.unusedSimpArgs false
set_option maxRecDepth 100000
theorem quo_u64 {n : Nat} (h : n < 2 ^ 64) : ifn .quo .u64 (n : Int) 256 = ((n / 256 : Nat) : Int) := by
  show IntKind.u64.wrap ((n / 256 : Nat) : Int) = _
  exact IntWalk.u64_in _ (by omega)
theorem dig_u8 (n : Nat) : IntKind.u8.wrap (ifn .rem .u64 (n : Int) 256) = ((n % 256 : Nat) : Int) := by
  show IntKind.u8.wrap ((n % 256 : Nat) : Int) = _
  exact u8_small (by omega)
theorem blk_cells {w : World} {b ty : Nat} {us : List Value} (h : Blk w b us ty) : Cells w (some ⟨b, 0, none⟩) us := fun h0 => by
  refine ⟨rfl, ?_, fun i u hi => ?_⟩
  · show b < w.heap.size
    rcases Nat.lt_or_ge b w.heap.size with q | q
    · exact q
    · have h2 : w.heap[b]? = _ := h
      rw [Array.getElem?_eq_none q] at h2; cases h2
  · have := cells_blk (o := 0) h i
    rw [Nat.zero_add] at this
    show w.cell? ⟨b, 0 + i, none⟩ = some u
    rw [Nat.zero_add, ← hi]
    exact this
theorem row_blk {w : World} {b : Nat} {bs : List Int} (hne : bs ≠ []) (hl : bs.length ≤ maxLen) (h : Blk w b (bcells bs) 5) : (frow (some ⟨b, 0, none⟩) bs.length bs).X w := by
  have := rw_shut (sz := 1) (n := bs.length) (cap := bs.length) (fun q => hne (List.eq_nil_of_length_eq_zero q)) h (Nat.le_refl _) hl (by rw [bcells_len]; omega)
  rwa [List.take_of_length_le (by rw [bcells_len]; omega)] at this
theorem new_o {w w' : World} {a : Option Addr} {cap n : Nat} {bs : List Int} {us : List Value} {v : Value} (hn : n = bs.length) (hus : us = bcells bs) (hv : v = .slice a n cap) (h : (HX.rw 1 5 a n cap us).X w') (hk : ∀ k, cap ≠ 0 → abk a = some k → w.heap.size ≤ k) (hb : Below w.heap.size w w') : NewO w id bs (.returned v) w' := by
  subst hn; subst hus; subst hv
  exact ⟨a, cap, rfl, h, hk, hb⟩
theorem numB_eq (u : Nat) {r : Nat} (h : nlen u = r) : numB u = (r : Int) :: digs r u := by unfold numB; rw [h]
set_option maxHeartbeats 4000000 in
theorem qn_any {u : Nat} (hu : u < 2 ^ 64) (w : World) : Calls Try.prog 50 #[.int .u64 (u : Int)] w (NewO w id (numB u)) := by
  refine calls_at (tab_ok _) Try.func50 rfl tQNum (ρ := ⟨[(u : Int)], [], [], [], []⟩) (ids := []) (hx := HX.nil) rfl (Facts.initP rfl oneNil) ?_
  have d0 : ∀ r, u / 256 ^ r / 256 = u / 256 ^ (r + 1) := fun r => by rw [Nat.div_div_eq_div_mul, Nat.pow_succ]
  have dl : ∀ r, u / 256 ^ r < 2 ^ 64 := fun r => Nat.lt_of_le_of_lt (Nat.div_le_self _ _) hu
  have e0 : (u : Int) = ((u / 256 ^ 0 : Nat) : Int) := by simp
  have e1 : ifn .quo .u64 ((u : Int)) 256 = ((u / 256 ^ 1 : Nat) : Int) := by rw [e0, quo_u64 (dl 0), d0]
  have e2 : ifn .quo .u64 (ifn .quo .u64 ((u : Int)) 256) 256 = ((u / 256 ^ 2 : Nat) : Int) := by rw [e1, quo_u64 (dl 1), d0]
  have e3 : ifn .quo .u64 (ifn .quo .u64 (ifn .quo .u64 ((u : Int)) 256) 256) 256 = ((u / 256 ^ 3 : Nat) : Int) := by rw [e2, quo_u64 (dl 2), d0]
  have e4 : ifn .quo .u64 (ifn .quo .u64 (ifn .quo .u64 (ifn .quo .u64 ((u : Int)) 256) 256) 256) 256 = ((u / 256 ^ 4 : Nat) : Int) := by rw [e3, quo_u64 (dl 3), d0]
  have e5 : ifn .quo .u64 (ifn .quo .u64 (ifn .quo .u64 (ifn .quo .u64 (ifn .quo .u64 ((u : Int)) 256) 256) 256) 256) 256 = ((u / 256 ^ 5 : Nat) : Int) := by rw [e4, quo_u64 (dl 4), d0]
  have e6 : ifn .quo .u64 (ifn .quo .u64 (ifn .quo .u64 (ifn .quo .u64 (ifn .quo .u64 (ifn .quo .u64 ((u : Int)) 256) 256) 256) 256) 256) 256 = ((u / 256 ^ 6 : Nat) : Int) := by rw [e5, quo_u64 (dl 5), d0]
  have e7 : ifn .quo .u64 (ifn .quo .u64 (ifn .quo .u64 (ifn .quo .u64 (ifn .quo .u64 (ifn .quo .u64 (ifn .quo .u64 ((u : Int)) 256) 256) 256) 256) 256) 256) 256 = ((u / 256 ^ 7 : Nat) : Int) := by rw [e6, quo_u64 (dl 6), d0]
  have e8 : ifn .quo .u64 (ifn .quo .u64 (ifn .quo .u64 (ifn .quo .u64 (ifn .quo .u64 (ifn .quo .u64 (ifn .quo .u64 (ifn .quo .u64 ((u : Int)) 256) 256) 256) 256) 256) 256) 256) 256 = ((u / 256 ^ 8 : Nat) : Int) := by rw [e7, quo_u64 (dl 7), d0]
  have cgt : ∀ {r : Nat} {X : Int}, X = ((u / 256 ^ r : Nat) : Int) → 0 < u / 256 ^ r → decide (X > 0) = true := fun e h => by rw [e]; exact decide_eq_true (by omega)
  have cle : ∀ {r : Nat} {X : Int}, X = ((u / 256 ^ r : Nat) : Int) → ¬ 0 < u / 256 ^ r → decide (X > 0) = false := fun e h => by rw [e]; exact decide_eq_false (by omega)
  have dg : ∀ {r : Nat} {X : Int}, X = ((u / 256 ^ r : Nat) : Int) → IntKind.u8.wrap (ifn .rem .u64 X 256) = ((u / 256 ^ r % 256 : Nat) : Int) := fun e => by rw [e]; exact dig_u8 _
  have nl : ∀ r, ¬ 0 < u / 256 ^ r → (r = 0 ∨ ∃ s, r = s + 1 ∧ 0 < u / 256 ^ s) → nlen u = r := fun r h h2 => by
    have h1 : u < 256 ^ r := by
      rcases Nat.lt_or_ge u (256 ^ r) with q | q
      · exact q
      · exact absurd (Nat.div_pos q (Nat.pow_pos (by decide))) h
    have h3 := nlen_le h1
    rcases h2 with rfl | ⟨s, rfl, hs⟩
    · omega
    · have h4 : 256 ^ s ≤ u := by
        rcases Nat.lt_or_ge u (256 ^ s) with q | q
        · rw [Nat.div_eq_of_lt q] at hs; omega
        · exact q
      have := nlen_gt h4
      omega
  have cons1 : ∀ r, [Value.int .u8 ((u / 256 ^ r % 256 : Nat) : Int)] ++ bcells (digs r u) = bcells (digs (r + 1) u) := fun r => by rw [digs_front]; rfl
  have lenr : ∀ r : Nat, r ≤ 9 → [Value.int .u8 (IntKind.u8.wrap (IntKind.i64.wrap (r : Int)))] = [Value.int .u8 (r : Int)] := fun r h => by rw [wrap_i64 (by omega), u8_small (by omega)]
  by_cases g0 : ¬ 0 < u / 256 ^ 0
  · refine br_f (cle (r := 0) e0 g0) ?_
    have hnl := nl 0 g0 (.inl rfl)
    refine node_pre0 (bn := 1) (k := 1) rfl Try.underlying35 info_byte rfl (fun ids => some ⟨idAt ids 0, 0, none⟩) 0 (fun _ => rfl) (fun _ _ => rfl) (by decide) (fun _ _ => rfl) rfl rfl (fun _ => rfl) ?_
    intro ids1 hp1 hl1 ids w2 hp hf
    have hb := hf.blkAt 1 rfl
    have hmem := idAt_mem (ids := ids) (n := 1) (by rw [hf.len]; decide)
    have hid : idAt ids 1 = idAt ids1 1 := idAt_pre hp (by rw [hl1]; decide)
    rw [hid] at hb hmem
    rw [numB_eq u hnl]
    exact new_o rfl rfl rfl (row_blk (bs := [0]) (by simp) (by decide) hb) (fun k _ h2 => by cases h2; exact (hf.own _ hmem).resolve_right (fun e => e)) hf.chg.below
  have g0 := Decidable.not_not.1 g0
  refine br_t (cgt (r := 0) e0 g0) ?_
  refine node_pre0 (bn := 1) (k := 1) rfl Try.underlying35 info_byte rfl (fun ids => some ⟨idAt ids 0, 0, none⟩) 0 (fun _ => rfl) (fun _ _ => rfl) (by decide) (fun _ _ => rfl) rfl rfl (fun _ => rfl) ?_
  intro ids1 hp1 hl1
  have hb1 : [Value.int .u8 (IntKind.u8.wrap (ifn .rem .u64 (u : Int) 256))] = bcells (digs 1 u) := by rw [dg e0, ← cons1 0]; rfl
  by_cases g1 : ¬ 0 < u / 256 ^ 1
  · refine br_f (cle (r := 1) e1 g1) ?_
    have hnl := nl 1 g1 (.inr ⟨0, rfl, g0⟩)
    refine node_pre (bn := 2) (k := 1) rfl Try.underlying35 info_byte rfl (by decide) [.int .u8 (1 : Int)] (fun _ => some ⟨idAt ids1 1, 0, none⟩) 1 1 (bcells (digs 1 u)) rfl (fun _ => ?_) rfl (by rw [bcells_len, digs_len]) (by decide) (fun ids w2 hp hf => by have hb := hf.blkAt 1 rfl; rw [idAt_pre hp (show 1 < ids1.length by rw [hl1]; decide)] at hb; rw [← hb1]; exact blk_cells hb) (by decide) (by decide) (fun _ => rfl) (fun _ _ => rfl) (fun _ _ _ => rfl) rfl rfl (fun _ _ => rfl) ?_
    · exact lenr 1 (by decide)
    intro a c hac ids w2 hp hf
    rw [numB_eq u hnl]
    exact new_o (n := 1 + 1) (by rw [List.length_cons, digs_len]) rfl rfl hf.x.2 (fun k h1 h2 => (hac k h1 h2).1) hf.chg.below
  have g1 := Decidable.not_not.1 g1
  refine br_t (cgt (r := 1) e1 g1) ?_
  refine node_pre (bn := 2) (k := 1) rfl Try.underlying35 info_byte rfl (by decide) [.int .u8 ((u / 256 ^ 1 % 256 : Nat) : Int)] (fun _ => some ⟨idAt ids1 1, 0, none⟩) 1 1 (bcells (digs 1 u)) rfl (fun _ => ?_) rfl (by rw [bcells_len, digs_len]) (by decide) (fun ids w2 hp hf => by have hb := hf.blkAt 1 rfl; rw [idAt_pre hp (show 1 < ids1.length by rw [hl1]; decide)] at hb; rw [← hb1]; exact blk_cells hb) (by decide) (by decide) (fun _ => rfl) (fun _ _ => rfl) (fun _ _ _ => rfl) rfl rfl (fun _ _ => rfl) ?_
  · exact congrArg (fun x => [Value.int .u8 x]) (dg (r := 1) e1)
  intro a2 c2 hac2
  by_cases g2 : ¬ 0 < u / 256 ^ 2
  · refine br_f (cle (r := 2) e2 g2) ?_
    have hnl := nl 2 g2 (.inr ⟨1, rfl, g1⟩)
    refine node_pre (bn := 3) (k := 1) rfl Try.underlying35 info_byte rfl (by decide) [.int .u8 (2 : Int)] (fun _ => a2) 2 c2 (bcells (digs 2 u)) rfl (fun _ => ?_) rfl (by rw [bcells_len, digs_len]) (by decide) (fun ids w2 hp hf => by rw [← cons1 1]; exact rw_cells hf.x.2) (by decide) (by decide) (fun _ => rfl) (fun _ _ => rfl) (fun _ _ _ => rfl) rfl rfl (fun _ _ => rfl) ?_
    · exact lenr 2 (by decide)
    intro a c hac ids w2 hp hf
    rw [numB_eq u hnl]
    exact new_o (n := 1 + 2) (by rw [List.length_cons, digs_len]) rfl rfl hf.x.2 (fun k h1 h2 => (hac k h1 h2).1) hf.chg.below
  have g2 := Decidable.not_not.1 g2
  refine br_t (cgt (r := 2) e2 g2) ?_
  refine node_pre (bn := 3) (k := 1) rfl Try.underlying35 info_byte rfl (by decide) [.int .u8 ((u / 256 ^ 2 % 256 : Nat) : Int)] (fun _ => a2) 2 c2 (bcells (digs 2 u)) rfl (fun _ => ?_) rfl (by rw [bcells_len, digs_len]) (by decide) (fun ids w2 hp hf => by rw [← cons1 1]; exact rw_cells hf.x.2) (by decide) (by decide) (fun _ => rfl) (fun _ _ => rfl) (fun _ _ _ => rfl) rfl rfl (fun _ _ => rfl) ?_
  · exact congrArg (fun x => [Value.int .u8 x]) (dg (r := 2) e2)
  intro a3 c3 hac3
  by_cases g3 : ¬ 0 < u / 256 ^ 3
  · refine br_f (cle (r := 3) e3 g3) ?_
    have hnl := nl 3 g3 (.inr ⟨2, rfl, g2⟩)
    refine node_pre (bn := 4) (k := 1) rfl Try.underlying35 info_byte rfl (by decide) [.int .u8 (3 : Int)] (fun _ => a3) 3 c3 (bcells (digs 3 u)) rfl (fun _ => ?_) rfl (by rw [bcells_len, digs_len]) (by decide) (fun ids w2 hp hf => by rw [← cons1 2]; exact rw_cells hf.x.2) (by decide) (by decide) (fun _ => rfl) (fun _ _ => rfl) (fun _ _ _ => rfl) rfl rfl (fun _ _ => rfl) ?_
    · exact lenr 3 (by decide)
    intro a c hac ids w2 hp hf
    rw [numB_eq u hnl]
    exact new_o (n := 1 + 3) (by rw [List.length_cons, digs_len]) rfl rfl hf.x.2 (fun k h1 h2 => (hac k h1 h2).1) hf.chg.below
  have g3 := Decidable.not_not.1 g3
  refine br_t (cgt (r := 3) e3 g3) ?_
  refine node_pre (bn := 4) (k := 1) rfl Try.underlying35 info_byte rfl (by decide) [.int .u8 ((u / 256 ^ 3 % 256 : Nat) : Int)] (fun _ => a3) 3 c3 (bcells (digs 3 u)) rfl (fun _ => ?_) rfl (by rw [bcells_len, digs_len]) (by decide) (fun ids w2 hp hf => by rw [← cons1 2]; exact rw_cells hf.x.2) (by decide) (by decide) (fun _ => rfl) (fun _ _ => rfl) (fun _ _ _ => rfl) rfl rfl (fun _ _ => rfl) ?_
  · exact congrArg (fun x => [Value.int .u8 x]) (dg (r := 3) e3)
  intro a4 c4 hac4
  by_cases g4 : ¬ 0 < u / 256 ^ 4
  · refine br_f (cle (r := 4) e4 g4) ?_
    have hnl := nl 4 g4 (.inr ⟨3, rfl, g3⟩)
    refine node_pre (bn := 5) (k := 1) rfl Try.underlying35 info_byte rfl (by decide) [.int .u8 (4 : Int)] (fun _ => a4) 4 c4 (bcells (digs 4 u)) rfl (fun _ => ?_) rfl (by rw [bcells_len, digs_len]) (by decide) (fun ids w2 hp hf => by rw [← cons1 3]; exact rw_cells hf.x.2) (by decide) (by decide) (fun _ => rfl) (fun _ _ => rfl) (fun _ _ _ => rfl) rfl rfl (fun _ _ => rfl) ?_
    · exact lenr 4 (by decide)
    intro a c hac ids w2 hp hf
    rw [numB_eq u hnl]
    exact new_o (n := 1 + 4) (by rw [List.length_cons, digs_len]) rfl rfl hf.x.2 (fun k h1 h2 => (hac k h1 h2).1) hf.chg.below
  have g4 := Decidable.not_not.1 g4
  refine br_t (cgt (r := 4) e4 g4) ?_
  refine node_pre (bn := 5) (k := 1) rfl Try.underlying35 info_byte rfl (by decide) [.int .u8 ((u / 256 ^ 4 % 256 : Nat) : Int)] (fun _ => a4) 4 c4 (bcells (digs 4 u)) rfl (fun _ => ?_) rfl (by rw [bcells_len, digs_len]) (by decide) (fun ids w2 hp hf => by rw [← cons1 3]; exact rw_cells hf.x.2) (by decide) (by decide) (fun _ => rfl) (fun _ _ => rfl) (fun _ _ _ => rfl) rfl rfl (fun _ _ => rfl) ?_
  · exact congrArg (fun x => [Value.int .u8 x]) (dg (r := 4) e4)
  intro a5 c5 hac5
  by_cases g5 : ¬ 0 < u / 256 ^ 5
  · refine br_f (cle (r := 5) e5 g5) ?_
    have hnl := nl 5 g5 (.inr ⟨4, rfl, g4⟩)
    refine node_pre (bn := 6) (k := 1) rfl Try.underlying35 info_byte rfl (by decide) [.int .u8 (5 : Int)] (fun _ => a5) 5 c5 (bcells (digs 5 u)) rfl (fun _ => ?_) rfl (by rw [bcells_len, digs_len]) (by decide) (fun ids w2 hp hf => by rw [← cons1 4]; exact rw_cells hf.x.2) (by decide) (by decide) (fun _ => rfl) (fun _ _ => rfl) (fun _ _ _ => rfl) rfl rfl (fun _ _ => rfl) ?_
    · exact lenr 5 (by decide)
    intro a c hac ids w2 hp hf
    rw [numB_eq u hnl]
    exact new_o (n := 1 + 5) (by rw [List.length_cons, digs_len]) rfl rfl hf.x.2 (fun k h1 h2 => (hac k h1 h2).1) hf.chg.below
  have g5 := Decidable.not_not.1 g5
  refine br_t (cgt (r := 5) e5 g5) ?_
  refine node_pre (bn := 6) (k := 1) rfl Try.underlying35 info_byte rfl (by decide) [.int .u8 ((u / 256 ^ 5 % 256 : Nat) : Int)] (fun _ => a5) 5 c5 (bcells (digs 5 u)) rfl (fun _ => ?_) rfl (by rw [bcells_len, digs_len]) (by decide) (fun ids w2 hp hf => by rw [← cons1 4]; exact rw_cells hf.x.2) (by decide) (by decide) (fun _ => rfl) (fun _ _ => rfl) (fun _ _ _ => rfl) rfl rfl (fun _ _ => rfl) ?_
  · exact congrArg (fun x => [Value.int .u8 x]) (dg (r := 5) e5)
  intro a6 c6 hac6
  by_cases g6 : ¬ 0 < u / 256 ^ 6
  · refine br_f (cle (r := 6) e6 g6) ?_
    have hnl := nl 6 g6 (.inr ⟨5, rfl, g5⟩)
    refine node_pre (bn := 7) (k := 1) rfl Try.underlying35 info_byte rfl (by decide) [.int .u8 (6 : Int)] (fun _ => a6) 6 c6 (bcells (digs 6 u)) rfl (fun _ => ?_) rfl (by rw [bcells_len, digs_len]) (by decide) (fun ids w2 hp hf => by rw [← cons1 5]; exact rw_cells hf.x.2) (by decide) (by decide) (fun _ => rfl) (fun _ _ => rfl) (fun _ _ _ => rfl) rfl rfl (fun _ _ => rfl) ?_
    · exact lenr 6 (by decide)
    intro a c hac ids w2 hp hf
    rw [numB_eq u hnl]
    exact new_o (n := 1 + 6) (by rw [List.length_cons, digs_len]) rfl rfl hf.x.2 (fun k h1 h2 => (hac k h1 h2).1) hf.chg.below
  have g6 := Decidable.not_not.1 g6
  refine br_t (cgt (r := 6) e6 g6) ?_
  refine node_pre (bn := 7) (k := 1) rfl Try.underlying35 info_byte rfl (by decide) [.int .u8 ((u / 256 ^ 6 % 256 : Nat) : Int)] (fun _ => a6) 6 c6 (bcells (digs 6 u)) rfl (fun _ => ?_) rfl (by rw [bcells_len, digs_len]) (by decide) (fun ids w2 hp hf => by rw [← cons1 5]; exact rw_cells hf.x.2) (by decide) (by decide) (fun _ => rfl) (fun _ _ => rfl) (fun _ _ _ => rfl) rfl rfl (fun _ _ => rfl) ?_
  · exact congrArg (fun x => [Value.int .u8 x]) (dg (r := 6) e6)
  intro a7 c7 hac7
  by_cases g7 : ¬ 0 < u / 256 ^ 7
  · refine br_f (cle (r := 7) e7 g7) ?_
    have hnl := nl 7 g7 (.inr ⟨6, rfl, g6⟩)
    refine node_pre (bn := 8) (k := 1) rfl Try.underlying35 info_byte rfl (by decide) [.int .u8 (7 : Int)] (fun _ => a7) 7 c7 (bcells (digs 7 u)) rfl (fun _ => ?_) rfl (by rw [bcells_len, digs_len]) (by decide) (fun ids w2 hp hf => by rw [← cons1 6]; exact rw_cells hf.x.2) (by decide) (by decide) (fun _ => rfl) (fun _ _ => rfl) (fun _ _ _ => rfl) rfl rfl (fun _ _ => rfl) ?_
    · exact lenr 7 (by decide)
    intro a c hac ids w2 hp hf
    rw [numB_eq u hnl]
    exact new_o (n := 1 + 7) (by rw [List.length_cons, digs_len]) rfl rfl hf.x.2 (fun k h1 h2 => (hac k h1 h2).1) hf.chg.below
  have g7 := Decidable.not_not.1 g7
  refine br_t (cgt (r := 7) e7 g7) ?_
  refine node_pre (bn := 8) (k := 1) rfl Try.underlying35 info_byte rfl (by decide) [.int .u8 ((u / 256 ^ 7 % 256 : Nat) : Int)] (fun _ => a7) 7 c7 (bcells (digs 7 u)) rfl (fun _ => ?_) rfl (by rw [bcells_len, digs_len]) (by decide) (fun ids w2 hp hf => by rw [← cons1 6]; exact rw_cells hf.x.2) (by decide) (by decide) (fun _ => rfl) (fun _ _ => rfl) (fun _ _ _ => rfl) rfl rfl (fun _ _ => rfl) ?_
  · exact congrArg (fun x => [Value.int .u8 x]) (dg (r := 7) e7)
  intro a8 c8 hac8
  have g8 : ¬ 0 < u / 256 ^ 8 := by rw [Nat.div_eq_of_lt (by simpa using hu)]; decide
  refine br_f (cle (r := 8) e8 g8) ?_
  have hnl := nl 8 g8 (.inr ⟨7, rfl, g7⟩)
  refine node_pre (bn := 9) (k := 1) rfl Try.underlying35 info_byte rfl (by decide) [.int .u8 (8 : Int)] (fun _ => a8) 8 c8 (bcells (digs 8 u)) rfl (fun _ => ?_) rfl (by rw [bcells_len, digs_len]) (by decide) (fun ids w2 hp hf => by rw [← cons1 7]; exact rw_cells hf.x.2) (by decide) (by decide) (fun _ => rfl) (fun _ _ => rfl) (fun _ _ _ => rfl) rfl rfl (fun _ _ => rfl) ?_
  · exact lenr 8 (by decide)
  intro a c hac ids w2 hp hf
  rw [numB_eq u hnl]
  exact new_o (n := 1 + 8) (by rw [List.length_cons, digs_len]) rfl rfl hf.x.2 (fun k h1 h2 => (hac k h1 h2).1) hf.chg.below
theorem qi_any {i : Int} (hi : I64 i) (w : World) : Calls Try.prog 53 #[.int .i64 i] w (NewO w id (numB (foldN i))) := by
  refine calls_at (tab_ok _) Try.func53 rfl tQInt (ρ := ⟨[i], [], [], [], []⟩) (ids := []) (hx := HX.nil) rfl (Facts.initP rfl oneNil) ?_
  refine node_val ⟨[(foldN i : Int)], [], [], [], []⟩ (fun w => rfold_any hi w) (fun _ => rfl) (fun _ => rfl) rfl rfl rfl oneNil ?_
  refine node_newo (V := id) (bs := numB (foldN i)) _ (fun a' c' => ⟨[], [], [], [(numB (foldN i)).length, c'], [a']⟩) (fun _ => rfl) (fun ids w2 hp hf => qn_any (foldN_lt hi) w2) (fun _ _ _ => rfl) rfl rfl (fun _ _ => rfl) (fun _ _ => oneNil) ?_
  intro a' c' hs hn ids w2 hp hf
  exact ⟨a', c', rfl, hf.x.2, fun k h1 h2 => (hn k h1 h2).1, hf.chg.below⟩
end Go.Proofs.Ytadgaefmoobcoaa
