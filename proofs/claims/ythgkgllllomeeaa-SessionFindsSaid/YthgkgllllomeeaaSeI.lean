/- Sessions: slices.Insert. -/
import Derived.Test.YthgkgllllomeeaaSeB
import Derived.Test.YthgkgllllomeeaaEng32
namespace Go.Proofs.Ythgkgllllomeeaa
open Go.ChangeShapes Go.WideShapes Go.ChangeAt Go.RowKit Go.Syn Go.Eng
set_option linter.unusedVariables false
set_option linter.unusedSimpArgs false
set_option maxRecDepth 100000

set_option maxHeartbeats 2000000 in
theorem inst_any (a : Option Addr) (cap n i : Nat) (xs : List Value) (no ack : Int) (b : Nat) (w : World) (H : (HX.rw 3 42 a n cap xs).X w) (hb : Blk w b [Value.int .i64 no, .int .i64 ack, .slice none 0 0] 42) (hi : i ≤ n) (hn : n ≤ 1000000) (hxo : ∀ u ∈ xs, u.oneCell' = true) (hna : ∀ k, cap ≠ 0 → abk a = some k → k ≠ b) :
    Calls Try.prog 21 #[.slice a n cap, .int .i64 (i : Int), .slice (some ⟨b, 0, none⟩) 1 1] w (RwMut w id 3 42 a cap (n + 1) (xs.take (i * 3) ++ [Value.int .i64 no, .int .i64 ack, .slice none 0 0] ++ xs.drop (i * 3))) := by
  obtain ⟨us, eus⟩ : ∃ us, us = [Value.int .i64 no, .int .i64 ack, .slice none 0 0] := ⟨_, rfl⟩
  have hul : us.length = 3 := by rw [eus]; rfl
  have huo : ∀ u ∈ us, u.oneCell' = true := by rw [eus]; intro u hu; simp at hu; rcases hu with rfl | rfl | rfl <;> rfl
  have hxl := rw_len H
  have hle := rw_le H
  have hwn : IntKind.i64.wrap ((n : Int) + 1) = ((n + 1 : Nat) : Int) := by rw [wrap_i64 (by omega)]; omega
  have hwi : IntKind.i64.wrap ((i : Int) + 1) = ((i + 1 : Nat) : Int) := by rw [wrap_i64 (by omega)]; omega
  have hwk : IntKind.i64.wrap (IntKind.i64.wrap ((n : Int) + 1) - (i : Int)) = ((n + 1 - i : Nat) : Int) := by rw [hwn, wrap_i64 (by omega)]; omega
  have hlt0 : ∀ k, cap ≠ 0 → abk a = some k → k < w.heap.size := fun k h1 h2 => rw_blt H h1 h2
  have hblt : b < w.heap.size := by
    rcases Nat.lt_or_ge b w.heap.size with q | q
    · exact q
    · have h2 : w.heap[b]? = _ := hb
      rw [Array.getElem?_eq_none q] at h2; cases h2
  have same : ∀ {m : Mem} {ρ : Env} {ids : List Nat} {hx : HX} {w2 : World} {R : Ending → World → Prop} {lvs : List LV}, [b] <+: ids → Facts ⟨Try.prog, w, fun k => k = b ∨ (cap ≠ 0 ∧ abk a = some k), R⟩ ⟨[(42, lvs)], m.c⟩ ρ ids hx w2 → cellsDen ρ ids lvs = [Value.int .i64 no, .int .i64 ack, .slice none 0 0] → w2.heap[b]? = w.heap[b]? := fun hp hf hv => by
    have e0 := hf.blkAt 0 rfl
    rw [idAt0 hp, hv] at e0
    exact e0.trans hb.symm
  rw [← eus]
  by_cases hin : i = n
  · subst hin
    rw [List.take_of_length_le (Nat.le_of_eq hxl), List.drop_of_length_le (Nat.le_of_eq hxl), List.append_nil]
    refine calls_at (tab_ok _) Try.func21 rfl tInsT (ρ := ⟨[(i : Int), no, ack], [], [], [i, cap], [a]⟩) (ids := [b]) (hx := HX.nil.and (HX.rw 3 42 a i cap xs)) (M := fun k => k = b ∨ (cap ≠ 0 ∧ abk a = some k)) rfl (Facts.initx rfl oneNil hb (by kernel_rfl) (.inl rfl) ⟨trivial, H⟩ (fun k hk => hk.elim (fun q => q.elim) (fun q => ⟨rw_blt H q.1 q.2, hna k q.1 q.2⟩))) ?_
    refine node_from (l := i) (n := i) (cap := cap) (sz := 3) a Try.underlying25 (by kernel_rfl) info_se (by intros; kernel_rfl) (by intros; kernel_rfl) (Nat.le_refl _) (by intros; kernel_rfl) (by kernel_rfl) (by kernel_rfl) (by kernel_rfl) ?_
    refine br_T ((i : Int) == (i : Int)) (by kernel_rfl) (by simp) ?_
    refine node_types a i cap Try.underlying25 Try.underlying24 (by intros; kernel_rfl) ?_
    refine node_pushs (sz := 3) (z := (.agg #[.int .i64 0, .int .i64 0, .slice none 0 0])) rfl Try.underlying25 info_se rfl (by decide) a i cap xs us 0 (by intros; kernel_rfl) (by intros; kernel_rfl) rfl (by rw [eus]; intros; kernel_rfl) hul huo (fun k _ _ q => q.elim) (fun k h1 h2 => .inr (.inr ⟨h1, h2⟩)) (by simp only [maxLen]; omega) (by omega) (by intros; kernel_rfl) (by kernel_rfl) (by kernel_rfl) (by intros; kernel_rfl) ?_
    intro a' cap' hc0 _ hwh ids w2 hp hf
    refine ⟨a', cap', by kernel_rfl, hf.x.2, fun k h1 h2 => ?_, hf.chg.but (same (m := ⟨[], _⟩) hp hf (by kernel_rfl))⟩
    rcases hwh with ⟨q1, q2⟩ | ⟨g, q1, q2, q3⟩
    · exact .inl ⟨q1, by rw [← q2]; exact h2⟩
    · rw [q1] at h2; cases h2; exact .inr q2
  have hin2 : i < n := by omega
  have hc0 : cap ≠ 0 := by omega
  obtain ⟨g, cur, ea, hlt, hg, hnc, hcm, hcl, htk⟩ := rw_open H hc0
  have hdl : (xs.drop (i * 3)).length = (n - i) * 3 := by rw [List.length_drop, hxl]; omega
  have htl : (xs.take (i * 3)).length = i * 3 := by rw [List.length_take, hxl]; omega
  have hA : sliA a 0 cap 3 = a := by rw [ea, sliA_in (by omega), Nat.zero_mul]
  have hAi : ∀ l, sliA (sliA a 0 cap 3) l cap 3 = sliA a l cap 3 := fun l => by rw [hA]
  have hone : ∀ u ∈ xs.drop (i * 3), u.oneCell' = true := fun u hu => hxo u (List.mem_of_mem_drop hu)
  by_cases hroom : n + 1 ≤ cap
  · have hmul : (n + 1) * 3 ≤ cap * 3 := Nat.mul_le_mul_right _ hroom
    obtain ⟨T, eT⟩ : ∃ T, T = (cur.drop (n * 3)).take 3 := ⟨_, rfl⟩
    have hTl : T.length = 3 := by rw [eT, List.length_take, List.length_drop, hcl]; omega
    have H2 : (HX.rw 3 42 a (n + 1) cap (xs ++ T)).X w := by
      have := rw_shut hc0 hg hroom hcm hcl
      rw [ea]
      rw [show cur.take ((n + 1) * 3) = xs ++ T by rw [eT, ← htk, Nat.add_mul, Nat.one_mul, List.take_add]] at this
      exact this
    refine calls_at (tab_ok _) Try.func21 rfl tInsT (ρ := ⟨[(i : Int), no, ack], [], [], [n, cap], [a]⟩) (ids := [b]) (hx := HX.nil.and (HX.rw 3 42 a (n + 1) cap (xs ++ T))) (M := fun k => k = b ∨ (cap ≠ 0 ∧ abk a = some k)) rfl (Facts.initx rfl oneNil hb (by kernel_rfl) (.inl rfl) ⟨trivial, H2⟩ (fun k hk => hk.elim (fun q => q.elim) (fun q => ⟨rw_blt H q.1 q.2, hna k q.1 q.2⟩))) ?_
    refine node_from (l := i) (n := n) (cap := cap) (sz := 3) a Try.underlying25 (by kernel_rfl) info_se (by intros; kernel_rfl) (by intros; kernel_rfl) (by omega) (by intros; kernel_rfl) (by kernel_rfl) (by kernel_rfl) (by kernel_rfl) ?_
    refine br_F ((i : Int) == (n : Int)) (by kernel_rfl) (beq_eq_false_iff_ne.2 (by omega)) ?_
    refine node_cap rfl Try.underlying25 a n cap (by intros; kernel_rfl) (by intros; kernel_rfl) (by kernel_rfl) (by kernel_rfl) (by kernel_rfl) ?_
    refine br_F (decide (IntKind.i64.wrap ((n : Int) + 1) > (cap : Int))) (by kernel_rfl) (decide_eq_false (by rw [hwn]; omega)) ?_
    refine node_upto (u := n + 1) (n := n) (cap := cap) (sz := 3) a Try.underlying25 (by kernel_rfl) info_se (by intros; kernel_rfl) (fun ids => Eq.trans (b := .int .i64 (IntKind.i64.wrap ((n : Int) + 1))) (by kernel_rfl) (by rw [hwn])) (fun ids w2 hf => hroom) (by intros; kernel_rfl) (by kernel_rfl) (by kernel_rfl) (by kernel_rfl) ?_
    refine node_from (l := i + 1) (n := n + 1) (cap := cap) (sz := 3) (sliA a 0 cap 3) Try.underlying25 (by kernel_rfl) info_se (by intros; kernel_rfl) (fun ids => Eq.trans (b := .int .i64 (IntKind.i64.wrap ((i : Int) + 1))) (by kernel_rfl) (by rw [hwi])) (by omega) (by intros; kernel_rfl) (by kernel_rfl) (by kernel_rfl) (by kernel_rfl) ?_
    have hps : a.isSome = true := by rw [ea]; rfl
    refine node_extw (g := 31) (e := Extern.SlicesOverlaps.overlaps #[24, 24] #[4]) (V := .bool false) (fun ids => #[.slice (some ⟨idAt ids 0, 0, none⟩) 1 1, .slice (sliA (sliA a 0 cap 3) (i + 1) cap 3) (n + 1 - (i + 1)) (cap - (i + 1))]) ⟨[], [false], [], [], []⟩ (fn := Try.prog.funcs[31]!) (by kernel_rfl) (by kernel_rfl) (by kernel_rfl) (by kernel_rfl) (by kernel_rfl) (by intros; kernel_rfl) (fun ids w2 hp hf => ?_) (by intros; kernel_rfl) (by kernel_rfl) (by kernel_rfl) (by kernel_rfl) oneNil ?_
    · rw [hAi, ea, sliA_in (by omega)]
      obtain ⟨g2, cur2, ea2, hlt2, hg2, _, _, hcl2, _⟩ := rw_open hf.x.2 hc0
      have e0 := hf.blkAt 0 rfl
      rw [idAt0 hp] at e0 ⊢
      have hgg : g2 = g := by rw [ea] at ea2; cases ea2; rfl
      subst hgg
      have hb2 : w2.heap[b]? = _ := e0
      refine Go.Lib.run_overlaps_apart w2 24 4 42 Try.underlying24 3 (fun w3 => by
        obtain ⟨i0, hi0, hz0, hz1, hz2⟩ := info_parts info_se
        simp [sizeOf, typeInfo, hi0, hz1]) ⟨b, 0, none⟩ ⟨g2, (i + 1) * 3, none⟩ 1 1 _ _ (fun q => hna g2 hc0 (by rw [ea]; rfl) q.symm) 42 42 3 (cap * 3) ?_ ?_ (by omega) ?_ ?_
      · simp only [World.shape?, hb2]; kernel_rfl
      · simp only [World.shape?, hg2]; rw [← hcl2]; simp
      · simp only [World.frozen?, hb2]; rfl
      · simp only [World.frozen?, hb2]; rfl
    refine br_t (by kernel_rfl) ?_
    have hcs1 : ∀ {m : Mem} {ρ : Env} {ids : List Nat} {w2 : World} {R : Ending → World → Prop} {ys : List Value}, Facts ⟨Try.prog, w, fun k => k = b ∨ (cap ≠ 0 ∧ abk a = some k), R⟩ m ρ ids (HX.nil.and (HX.rw 3 42 a (n + 1) cap (xs ++ T))) w2 → Cells w2 (sliA (sliA a 0 cap 3) i cap 3) (xs.drop (i * 3)) := fun hf => by
      rw [hAi]
      have := sli_cells (rw_cells hf.x.2) i ((n - i) * 3) cap 3 (by rw [List.length_append, hxl]; omega) (by rw [List.length_append, hxl, hTl]; omega) (by decide)
      rw [List.drop_append_of_le_length (by rw [hxl]; omega), List.take_append_of_le_length (by rw [hdl]; omega), List.take_of_length_le (by rw [hdl]; omega)] at this
      exact this
    have hres : spl (spl (xs ++ T) ((i + 1) * 3) (xs.drop (i * 3))) (i * 3) us = xs.take (i * 3) ++ us ++ xs.drop (i * 3) := by
      have := ins_in (P := xs.take (i * 3)) (Q := xs.drop (i * 3)) (T := T) (us := us) (by rw [hul, hTl])
      rw [htl, hul, List.take_append_drop] at this
      rw [show (i + 1) * 3 = i * 3 + 3 by omega]; exact this
    refine ⟨?_, ?_⟩
    · refine node_from (l := i + 1) (n := n + 1) (cap := cap) (sz := 3) (sliA a 0 cap 3) Try.underlying25 (by kernel_rfl) info_se (by intros; kernel_rfl) (fun ids => Eq.trans (b := .int .i64 (IntKind.i64.wrap ((i : Int) + 1))) (by kernel_rfl) (by rw [hwi])) (by omega) (by intros; kernel_rfl) (by kernel_rfl) (by kernel_rfl) (by kernel_rfl) ?_
      refine node_from (l := i) (n := n + 1) (cap := cap) (sz := 3) (sliA a 0 cap 3) Try.underlying25 (by kernel_rfl) info_se (by intros; kernel_rfl) (by intros; kernel_rfl) (by omega) (by intros; kernel_rfl) (by kernel_rfl) (by kernel_rfl) (by kernel_rfl) ?_
      refine node_copy (sz := 3) (e := 42) rfl Try.underlying25 info_se (by decide) a (n + 1) cap (i + 1) (xs ++ T) (sliA (sliA a 0 cap 3) (i + 1) cap 3) (n + 1 - (i + 1)) (cap - (i + 1)) (fun _ => sliA (sliA a 0 cap 3) i cap 3) (n + 1 - i) (cap - i) (n - i) (xs.drop (i * 3)) (by intros; kernel_rfl) (fun ids hp => by kernel_rfl) (fun _ _ => hAi _) (by show min _ _ = _; omega) hdl (by omega) hone (fun ids w2 hp hf => hcs1 (ys := xs) hf) (fun q _ _ z => z.elim) (fun k h1 h2 => .inr (.inr ⟨h1, h2⟩)) (by intros; kernel_rfl) (by kernel_rfl) (by kernel_rfl) (by kernel_rfl) ?_
      refine node_from (l := i) (n := n + 1) (cap := cap) (sz := 3) (sliA a 0 cap 3) Try.underlying25 (by kernel_rfl) info_se (by intros; kernel_rfl) (by intros; kernel_rfl) (by omega) (by intros; kernel_rfl) (by kernel_rfl) (by kernel_rfl) (by kernel_rfl) ?_
      refine node_copy (sz := 3) (e := 42) rfl Try.underlying25 info_se (by decide) a (n + 1) cap i _ (sliA (sliA a 0 cap 3) i cap 3) (n + 1 - i) (cap - i) (fun ids => some ⟨idAt ids 0, 0, none⟩) 1 1 1 us (by intros; kernel_rfl) (fun ids hp => by kernel_rfl) (fun _ _ => hAi _) (Nat.min_eq_left (by omega)) (by rw [hul]) (by omega) huo (fun ids w2 hp hf => by rw [eus]; exact blk_cells (hf.blkAt 0 rfl)) (fun q _ _ z => z.elim) (fun k h1 h2 => .inr (.inr ⟨h1, h2⟩)) (by intros; kernel_rfl) (by kernel_rfl) (by kernel_rfl) (by kernel_rfl) ?_
      rw [hres]
      intro ids w2 hp hf
      exact ⟨a, cap, Eq.trans (b := .returned (.slice (sliA a 0 cap 3) (n + 1) cap)) (by kernel_rfl) (by rw [hA]; rfl), hf.x.2, fun k h1 h2 => .inl ⟨h1, h2⟩, hf.chg.but (same (m := ⟨[], _⟩) hp hf (by kernel_rfl))⟩
    · refine node_from (l := i) (n := n + 1) (cap := cap) (sz := 3) (sliA a 0 cap 3) Try.underlying25 (by kernel_rfl) info_se (by intros; kernel_rfl) (by intros; kernel_rfl) (by omega) (by intros; kernel_rfl) (by kernel_rfl) (by kernel_rfl) (by kernel_rfl) ?_
      refine node_from (l := i + 1) (n := n + 1) (cap := cap) (sz := 3) (sliA a 0 cap 3) Try.underlying25 (by kernel_rfl) info_se (by intros; kernel_rfl) (fun ids => Eq.trans (b := .int .i64 (IntKind.i64.wrap ((i : Int) + 1))) (by kernel_rfl) (by rw [hwi])) (by omega) (by intros; kernel_rfl) (by kernel_rfl) (by kernel_rfl) (by kernel_rfl) ?_
      refine node_copy (sz := 3) (e := 42) rfl Try.underlying25 info_se (by decide) a (n + 1) cap (i + 1) (xs ++ T) (sliA (sliA a 0 cap 3) (i + 1) cap 3) (n + 1 - (i + 1)) (cap - (i + 1)) (fun _ => sliA (sliA a 0 cap 3) i cap 3) (n + 1 - i) (cap - i) (n - i) (xs.drop (i * 3)) (by intros; kernel_rfl) (fun ids hp => by kernel_rfl) (fun _ _ => hAi _) (by show min _ _ = _; omega) hdl (by omega) hone (fun ids w2 hp hf => hcs1 (ys := xs) hf) (fun q _ _ z => z.elim) (fun k h1 h2 => .inr (.inr ⟨h1, h2⟩)) (by intros; kernel_rfl) (by kernel_rfl) (by kernel_rfl) (by kernel_rfl) ?_
      refine node_from (l := i) (n := n + 1) (cap := cap) (sz := 3) (sliA a 0 cap 3) Try.underlying25 (by kernel_rfl) info_se (by intros; kernel_rfl) (by intros; kernel_rfl) (by omega) (by intros; kernel_rfl) (by kernel_rfl) (by kernel_rfl) (by kernel_rfl) ?_
      refine node_copy (sz := 3) (e := 42) rfl Try.underlying25 info_se (by decide) a (n + 1) cap i _ (sliA (sliA a 0 cap 3) i cap 3) (n + 1 - i) (cap - i) (fun ids => some ⟨idAt ids 0, 0, none⟩) 1 1 1 us (by intros; kernel_rfl) (fun ids hp => by kernel_rfl) (fun _ _ => hAi _) (Nat.min_eq_left (by omega)) (by rw [hul]) (by omega) huo (fun ids w2 hp hf => by rw [eus]; exact blk_cells (hf.blkAt 0 rfl)) (fun q _ _ z => z.elim) (fun k h1 h2 => .inr (.inr ⟨h1, h2⟩)) (by intros; kernel_rfl) (by kernel_rfl) (by kernel_rfl) (by kernel_rfl) ?_
      rw [hres]
      intro ids w2 hp hf
      exact ⟨a, cap, Eq.trans (b := .returned (.slice (sliA a 0 cap 3) (n + 1) cap)) (by kernel_rfl) (by rw [hA]; rfl), hf.x.2, fun k h1 h2 => .inl ⟨h1, h2⟩, hf.chg.but (same (m := ⟨[], _⟩) hp hf (by kernel_rfl))⟩
  · obtain rfl : cap = n := by omega
    refine calls_at (tab_ok _) Try.func21 rfl tInsT (ρ := ⟨[(i : Int), no, ack], [], [], [cap, cap], [a]⟩) (ids := [b]) (hx := HX.nil.and (HX.rw 3 42 a cap cap xs)) (M := fun k => k = b ∨ (cap ≠ 0 ∧ abk a = some k)) rfl (Facts.initx rfl oneNil hb (by kernel_rfl) (.inl rfl) ⟨trivial, H⟩ (fun k hk => hk.elim (fun q => q.elim) (fun q => ⟨rw_blt H q.1 q.2, hna k q.1 q.2⟩))) ?_
    refine node_from (l := i) (n := cap) (cap := cap) (sz := 3) a Try.underlying25 (by kernel_rfl) info_se (by intros; kernel_rfl) (by intros; kernel_rfl) (by omega) (by intros; kernel_rfl) (by kernel_rfl) (by kernel_rfl) (by kernel_rfl) ?_
    refine br_F ((i : Int) == (cap : Int)) (by kernel_rfl) (beq_eq_false_iff_ne.2 (by omega)) ?_
    refine node_cap rfl Try.underlying25 a cap cap (by intros; kernel_rfl) (by intros; kernel_rfl) (by kernel_rfl) (by kernel_rfl) (by kernel_rfl) ?_
    refine br_T (decide (IntKind.i64.wrap ((cap : Int) + 1) > (cap : Int))) (by kernel_rfl) (decide_eq_true (by rw [hwn]; omega)) ?_
    refine node_upto (u := i) (n := cap) (cap := cap) (sz := 3) a Try.underlying25 (by kernel_rfl) info_se (by intros; kernel_rfl) (by intros; kernel_rfl) (fun ids w2 hf => hi) (by intros; kernel_rfl) (by kernel_rfl) (by kernel_rfl) (by kernel_rfl) ?_
    refine node_zeros (sz := 3) (z := (.agg #[.int .i64 0, .int .i64 0, .slice none 0 0])) rfl Try.underlying25 (by kernel_rfl) info_se rfl (by decide) (by intro v hv; simp [Value.cells] at hv; rcases hv with rfl | rfl | rfl <;> rfl) (sliA a 0 cap 3) i cap (cap + 1 - i) (xs.take (i * 3)) (by omega) (by omega) htl (fun u hu => hxo u (List.mem_of_mem_take hu)) (fun ids w2 hp hf => ?_) (by omega) (by decide) (by intros; kernel_rfl) (fun ids => Eq.trans (b := .int .i64 (IntKind.i64.wrap (IntKind.i64.wrap ((cap : Int) + 1) - (i : Int)))) (by kernel_rfl) (by rw [hwk])) (by intros; kernel_rfl) (by kernel_rfl) (by kernel_rfl) (by intros; kernel_rfl) ?_
    · have := sli_cells (rw_cells hf.x.2) 0 (i * 3) cap 3 (by omega) (Nat.le_of_eq hxl) (by decide)
      rw [Nat.zero_mul, List.drop_zero] at this
      exact this
    intro g3 c3 hc3 hge3 hnew3 hnF3
    obtain ⟨N, eN⟩ : ∃ N, N = i + (cap + 1 - i) := ⟨_, rfl⟩
    have hN : N = cap + 1 := by omega
    obtain ⟨Z, eZ⟩ : ∃ Z, Z = (Builtin.zeroCells (Value.cells (.agg #[.int .i64 0, .int .i64 0, .slice none 0 0])) (cap + 1 - i)).toList := ⟨_, rfl⟩
    have hZl : Z.length = (cap + 1 - i) * 3 := by rw [eZ, zeroCells_len]; rfl
    rw [← eZ, ← eN]
    have hdis3 : ∀ q, c3 ≠ 0 → abk (some (⟨g3, 0, none⟩ : Addr)) = some q → ¬ (HX.nil.and (HX.rw 3 42 a cap cap xs)).F q := fun q _ h2 => by cases h2; exact hnF3
    refine node_from (l := i) (n := N) (cap := c3) (sz := 3) (some ⟨g3, 0, none⟩) Try.underlying25 (by kernel_rfl) info_se (by intros; kernel_rfl) (by intros; kernel_rfl) (by omega) (by intros; kernel_rfl) (by kernel_rfl) (by kernel_rfl) (by kernel_rfl) ?_
    refine node_copy (sz := 3) (e := 42) rfl Try.underlying25 info_se (by decide) (some ⟨g3, 0, none⟩) N c3 i (xs.take (i * 3) ++ Z) (sliA (some ⟨g3, 0, none⟩) i c3 3) (N - i) (c3 - i) (fun ids => some ⟨idAt ids 0, 0, none⟩) 1 1 1 us (by intros; kernel_rfl) (fun ids hp => by kernel_rfl) (fun _ _ => rfl) (Nat.min_eq_left (by omega)) (by rw [hul]) (by omega) huo (fun ids w2 hp hf => ?_) hdis3 (fun q _ h2 => by cases h2; exact .inl hnew3) (by intros; kernel_rfl) (by kernel_rfl) (by kernel_rfl) (by kernel_rfl) ?_
    · have e0 := hf.blkAt 0 rfl
      rw [eus]; exact blk_cells e0
    have hres : spl (spl (xs.take (i * 3) ++ Z) (i * 3) us) ((i + 1) * 3) (xs.drop (i * 3)) = xs.take (i * 3) ++ us ++ xs.drop (i * 3) := by
      have := ins_new (P := xs.take (i * 3)) (Q := xs.drop (i * 3)) (Z := Z) (us := us) (by rw [hZl, hul, hdl]; omega)
      rw [htl, hul] at this
      rw [show (i + 1) * 3 = i * 3 + 3 by omega]; exact this
    have hcs2 : ∀ {m : Mem} {ρ : Env} {ids : List Nat} {hx2 : HX} {w2 : World} {R : Ending → World → Prop}, Facts ⟨Try.prog, w, fun k => k = b ∨ (cap ≠ 0 ∧ abk a = some k), R⟩ m ρ ids ((HX.nil.and (HX.rw 3 42 a cap cap xs)).and hx2) w2 → Cells w2 (sliA a i cap 3) (xs.drop (i * 3)) := fun hf => by
      have := sli_cells (rw_cells hf.x.1.2) i ((cap - i) * 3) cap 3 (by rw [hxl]; omega) (Nat.le_of_eq hxl) (by decide)
      rw [List.take_of_length_le (by rw [hdl]; omega)] at this
      exact this
    refine ⟨?_, ?_⟩
    · refine node_from (l := i + 1) (n := N) (cap := c3) (sz := 3) (some ⟨g3, 0, none⟩) Try.underlying25 (by kernel_rfl) info_se (by intros; kernel_rfl) (fun ids => Eq.trans (b := .int .i64 (IntKind.i64.wrap ((i : Int) + 1))) (by kernel_rfl) (by rw [hwi])) (by omega) (by intros; kernel_rfl) (by kernel_rfl) (by kernel_rfl) (by kernel_rfl) ?_
      refine node_from (l := i) (n := cap) (cap := cap) (sz := 3) a Try.underlying25 (by kernel_rfl) info_se (by intros; kernel_rfl) (by intros; kernel_rfl) (by omega) (by intros; kernel_rfl) (by kernel_rfl) (by kernel_rfl) (by kernel_rfl) ?_
      refine node_copy (sz := 3) (e := 42) rfl Try.underlying25 info_se (by decide) (some ⟨g3, 0, none⟩) N c3 (i + 1) _ (sliA (some ⟨g3, 0, none⟩) (i + 1) c3 3) (N - (i + 1)) (c3 - (i + 1)) (fun _ => sliA a i cap 3) (cap - i) (cap - i) (cap - i) (xs.drop (i * 3)) (by intros; kernel_rfl) (fun ids hp => by kernel_rfl) (fun _ _ => rfl) (Nat.min_eq_left (by omega)) hdl (by omega) hone (fun ids w2 hp hf => hcs2 hf) hdis3 (fun q _ h2 => by cases h2; exact .inl hnew3) (by intros; kernel_rfl) (by kernel_rfl) (by kernel_rfl) (by kernel_rfl) ?_
      rw [hres]
      intro ids w2 hp hf
      subst hN
      exact ⟨some ⟨g3, 0, none⟩, c3, by kernel_rfl, hf.x.2, fun k h1 h2 => by cases h2; exact .inr hnew3, hf.chg.but (same (m := ⟨[], _⟩) hp hf (by kernel_rfl))⟩
    · refine node_from (l := i) (n := cap) (cap := cap) (sz := 3) a Try.underlying25 (by kernel_rfl) info_se (by intros; kernel_rfl) (by intros; kernel_rfl) (by omega) (by intros; kernel_rfl) (by kernel_rfl) (by kernel_rfl) (by kernel_rfl) ?_
      refine node_from (l := i + 1) (n := N) (cap := c3) (sz := 3) (some ⟨g3, 0, none⟩) Try.underlying25 (by kernel_rfl) info_se (by intros; kernel_rfl) (fun ids => Eq.trans (b := .int .i64 (IntKind.i64.wrap ((i : Int) + 1))) (by kernel_rfl) (by rw [hwi])) (by omega) (by intros; kernel_rfl) (by kernel_rfl) (by kernel_rfl) (by kernel_rfl) ?_
      refine node_copy (sz := 3) (e := 42) rfl Try.underlying25 info_se (by decide) (some ⟨g3, 0, none⟩) N c3 (i + 1) _ (sliA (some ⟨g3, 0, none⟩) (i + 1) c3 3) (N - (i + 1)) (c3 - (i + 1)) (fun _ => sliA a i cap 3) (cap - i) (cap - i) (cap - i) (xs.drop (i * 3)) (by intros; kernel_rfl) (fun ids hp => by kernel_rfl) (fun _ _ => rfl) (Nat.min_eq_left (by omega)) hdl (by omega) hone (fun ids w2 hp hf => hcs2 hf) hdis3 (fun q _ h2 => by cases h2; exact .inl hnew3) (by intros; kernel_rfl) (by kernel_rfl) (by kernel_rfl) (by kernel_rfl) ?_
      rw [hres]
      intro ids w2 hp hf
      subst hN
      exact ⟨some ⟨g3, 0, none⟩, c3, by kernel_rfl, hf.x.2, fun k h1 h2 => by cases h2; exact .inr hnew3, hf.chg.but (same (m := ⟨[], _⟩) hp hf (by kernel_rfl))⟩

set_option maxHeartbeats 2000000 in
theorem insk_any (a : Option Addr) (cap n i : Nat) (xs : List Value) (q1 q2 q3 q4 : Int) (b : Nat) (w : World) (H : (HX.rw 4 48 a n cap xs).X w) (hb : Blk w b [Value.int .i64 q1, .int .i64 q2, .int .i64 q3, .int .i64 q4] 48) (hi : i ≤ n) (hn : n ≤ 1000000) (hxo : ∀ u ∈ xs, u.oneCell' = true) (hna : ∀ k, cap ≠ 0 → abk a = some k → k ≠ b) :
    Calls Try.prog 26 #[.slice a n cap, .int .i64 (i : Int), .slice (some ⟨b, 0, none⟩) 1 1] w (RwMut w id 4 48 a cap (n + 1) (xs.take (i * 4) ++ [Value.int .i64 q1, .int .i64 q2, .int .i64 q3, .int .i64 q4] ++ xs.drop (i * 4))) := by
  obtain ⟨us, eus⟩ : ∃ us, us = [Value.int .i64 q1, .int .i64 q2, .int .i64 q3, .int .i64 q4] := ⟨_, rfl⟩
  have hul : us.length = 4 := by rw [eus]; rfl
  have huo : ∀ u ∈ us, u.oneCell' = true := by rw [eus]; intro u hu; simp at hu; rcases hu with rfl | rfl | rfl | rfl <;> rfl
  have hxl := rw_len H
  have hle := rw_le H
  have hwn : IntKind.i64.wrap ((n : Int) + 1) = ((n + 1 : Nat) : Int) := by rw [wrap_i64 (by omega)]; omega
  have hwi : IntKind.i64.wrap ((i : Int) + 1) = ((i + 1 : Nat) : Int) := by rw [wrap_i64 (by omega)]; omega
  have hwk : IntKind.i64.wrap (IntKind.i64.wrap ((n : Int) + 1) - (i : Int)) = ((n + 1 - i : Nat) : Int) := by rw [hwn, wrap_i64 (by omega)]; omega
  have hlt0 : ∀ k, cap ≠ 0 → abk a = some k → k < w.heap.size := fun k h1 h2 => rw_blt H h1 h2
  have hblt : b < w.heap.size := by
    rcases Nat.lt_or_ge b w.heap.size with q | q
    · exact q
    · have h2 : w.heap[b]? = _ := hb
      rw [Array.getElem?_eq_none q] at h2; cases h2
  have same : ∀ {m : Mem} {ρ : Env} {ids : List Nat} {hx : HX} {w2 : World} {R : Ending → World → Prop} {lvs : List LV}, [b] <+: ids → Facts ⟨Try.prog, w, fun k => k = b ∨ (cap ≠ 0 ∧ abk a = some k), R⟩ ⟨[(48, lvs)], m.c⟩ ρ ids hx w2 → cellsDen ρ ids lvs = [Value.int .i64 q1, .int .i64 q2, .int .i64 q3, .int .i64 q4] → w2.heap[b]? = w.heap[b]? := fun hp hf hv => by
    have e0 := hf.blkAt 0 rfl
    rw [idAt0 hp, hv] at e0
    exact e0.trans hb.symm
  rw [← eus]
  by_cases hin : i = n
  · subst hin
    rw [List.take_of_length_le (Nat.le_of_eq hxl), List.drop_of_length_le (Nat.le_of_eq hxl), List.append_nil]
    refine calls_at (tab_ok _) Try.func26 rfl tInsK (ρ := ⟨[(i : Int), q1, q2, q3, q4], [], [], [i, cap], [a]⟩) (ids := [b]) (hx := HX.nil.and (HX.rw 4 48 a i cap xs)) (M := fun k => k = b ∨ (cap ≠ 0 ∧ abk a = some k)) rfl (Facts.initx rfl oneNil hb (by kernel_rfl) (.inl rfl) ⟨trivial, H⟩ (fun k hk => hk.elim (fun q => q.elim) (fun q => ⟨rw_blt H q.1 q.2, hna k q.1 q.2⟩))) ?_
    refine node_from (l := i) (n := i) (cap := cap) (sz := 4) a Try.underlying40 (by kernel_rfl) info_kp (by intros; kernel_rfl) (by intros; kernel_rfl) (Nat.le_refl _) (by intros; kernel_rfl) (by kernel_rfl) (by kernel_rfl) (by kernel_rfl) ?_
    refine br_T ((i : Int) == (i : Int)) (by kernel_rfl) (by simp) ?_
    refine node_pushs (sz := 4) (z := (.agg #[.int .i64 0, .int .i64 0, .int .i64 0, .int .i64 0])) rfl Try.underlying40 info_kp rfl (by decide) a i cap xs us 0 (by intros; kernel_rfl) (by intros; kernel_rfl) rfl (by rw [eus]; intros; kernel_rfl) hul huo (fun k _ _ q => q.elim) (fun k h1 h2 => .inr (.inr ⟨h1, h2⟩)) (by simp only [maxLen]; omega) (by omega) (by intros; kernel_rfl) (by kernel_rfl) (by kernel_rfl) (by intros; kernel_rfl) ?_
    intro a' cap' hc0 _ hwh ids w2 hp hf
    refine ⟨a', cap', by kernel_rfl, hf.x.2, fun k h1 h2 => ?_, hf.chg.but (same (m := ⟨[], _⟩) hp hf (by kernel_rfl))⟩
    rcases hwh with ⟨q1, q2⟩ | ⟨g, q1, q2, q3⟩
    · exact .inl ⟨q1, by rw [← q2]; exact h2⟩
    · rw [q1] at h2; cases h2; exact .inr q2
  have hin2 : i < n := by omega
  have hc0 : cap ≠ 0 := by omega
  obtain ⟨g, cur, ea, hlt, hg, hnc, hcm, hcl, htk⟩ := rw_open H hc0
  have hdl : (xs.drop (i * 4)).length = (n - i) * 4 := by rw [List.length_drop, hxl]; omega
  have htl : (xs.take (i * 4)).length = i * 4 := by rw [List.length_take, hxl]; omega
  have hA : sliA a 0 cap 4 = a := by rw [ea, sliA_in (by omega), Nat.zero_mul]
  have hAi : ∀ l, sliA (sliA a 0 cap 4) l cap 4 = sliA a l cap 4 := fun l => by rw [hA]
  have hone : ∀ u ∈ xs.drop (i * 4), u.oneCell' = true := fun u hu => hxo u (List.mem_of_mem_drop hu)
  by_cases hroom : n + 1 ≤ cap
  · have hmul : (n + 1) * 4 ≤ cap * 4 := Nat.mul_le_mul_right _ hroom
    obtain ⟨T, eT⟩ : ∃ T, T = (cur.drop (n * 4)).take 4 := ⟨_, rfl⟩
    have hTl : T.length = 4 := by rw [eT, List.length_take, List.length_drop, hcl]; omega
    have H2 : (HX.rw 4 48 a (n + 1) cap (xs ++ T)).X w := by
      have := rw_shut hc0 hg hroom hcm hcl
      rw [ea]
      rw [show cur.take ((n + 1) * 4) = xs ++ T by rw [eT, ← htk, Nat.add_mul, Nat.one_mul, List.take_add]] at this
      exact this
    refine calls_at (tab_ok _) Try.func26 rfl tInsK (ρ := ⟨[(i : Int), q1, q2, q3, q4], [], [], [n, cap], [a]⟩) (ids := [b]) (hx := HX.nil.and (HX.rw 4 48 a (n + 1) cap (xs ++ T))) (M := fun k => k = b ∨ (cap ≠ 0 ∧ abk a = some k)) rfl (Facts.initx rfl oneNil hb (by kernel_rfl) (.inl rfl) ⟨trivial, H2⟩ (fun k hk => hk.elim (fun q => q.elim) (fun q => ⟨rw_blt H q.1 q.2, hna k q.1 q.2⟩))) ?_
    refine node_from (l := i) (n := n) (cap := cap) (sz := 4) a Try.underlying40 (by kernel_rfl) info_kp (by intros; kernel_rfl) (by intros; kernel_rfl) (by omega) (by intros; kernel_rfl) (by kernel_rfl) (by kernel_rfl) (by kernel_rfl) ?_
    refine br_F ((i : Int) == (n : Int)) (by kernel_rfl) (beq_eq_false_iff_ne.2 (by omega)) ?_
    refine node_cap rfl Try.underlying40 a n cap (by intros; kernel_rfl) (by intros; kernel_rfl) (by kernel_rfl) (by kernel_rfl) (by kernel_rfl) ?_
    refine br_F (decide (IntKind.i64.wrap ((n : Int) + 1) > (cap : Int))) (by kernel_rfl) (decide_eq_false (by rw [hwn]; omega)) ?_
    refine node_upto (u := n + 1) (n := n) (cap := cap) (sz := 4) a Try.underlying40 (by kernel_rfl) info_kp (by intros; kernel_rfl) (fun ids => Eq.trans (b := .int .i64 (IntKind.i64.wrap ((n : Int) + 1))) (by kernel_rfl) (by rw [hwn])) (fun ids w2 hf => hroom) (by intros; kernel_rfl) (by kernel_rfl) (by kernel_rfl) (by kernel_rfl) ?_
    refine node_from (l := i + 1) (n := n + 1) (cap := cap) (sz := 4) (sliA a 0 cap 4) Try.underlying40 (by kernel_rfl) info_kp (by intros; kernel_rfl) (fun ids => Eq.trans (b := .int .i64 (IntKind.i64.wrap ((i : Int) + 1))) (by kernel_rfl) (by rw [hwi])) (by omega) (by intros; kernel_rfl) (by kernel_rfl) (by kernel_rfl) (by kernel_rfl) ?_
    have hps : a.isSome = true := by rw [ea]; rfl
    refine node_extw (g := 34) (e := Extern.SlicesOverlaps.overlaps #[40, 40] #[4]) (V := .bool false) (fun ids => #[.slice (some ⟨idAt ids 0, 0, none⟩) 1 1, .slice (sliA (sliA a 0 cap 4) (i + 1) cap 4) (n + 1 - (i + 1)) (cap - (i + 1))]) ⟨[], [false], [], [], []⟩ (fn := Try.prog.funcs[34]!) (by kernel_rfl) (by kernel_rfl) (by kernel_rfl) (by kernel_rfl) (by kernel_rfl) (by intros; kernel_rfl) (fun ids w2 hp hf => ?_) (by intros; kernel_rfl) (by kernel_rfl) (by kernel_rfl) (by kernel_rfl) oneNil ?_
    · rw [hAi, ea, sliA_in (by omega)]
      obtain ⟨g2, cur2, ea2, hlt2, hg2, _, _, hcl2, _⟩ := rw_open hf.x.2 hc0
      have e0 := hf.blkAt 0 rfl
      rw [idAt0 hp] at e0 ⊢
      have hgg : g2 = g := by rw [ea] at ea2; cases ea2; rfl
      subst hgg
      have hb2 : w2.heap[b]? = _ := e0
      refine Go.Lib.run_overlaps_apart w2 40 4 48 Try.underlying40 4 (fun w3 => by
        obtain ⟨i0, hi0, hz0, hz1, hz2⟩ := info_parts info_kp
        simp [sizeOf, typeInfo, hi0, hz1]) ⟨b, 0, none⟩ ⟨g2, (i + 1) * 4, none⟩ 1 1 _ _ (fun q => hna g2 hc0 (by rw [ea]; rfl) q.symm) 48 48 4 (cap * 4) ?_ ?_ (by omega) ?_ ?_
      · simp only [World.shape?, hb2]; kernel_rfl
      · simp only [World.shape?, hg2]; rw [← hcl2]; simp
      · simp only [World.frozen?, hb2]; rfl
      · simp only [World.frozen?, hb2]; rfl
    refine br_t (by kernel_rfl) ?_
    have hcs1 : ∀ {m : Mem} {ρ : Env} {ids : List Nat} {w2 : World} {R : Ending → World → Prop} {ys : List Value}, Facts ⟨Try.prog, w, fun k => k = b ∨ (cap ≠ 0 ∧ abk a = some k), R⟩ m ρ ids (HX.nil.and (HX.rw 4 48 a (n + 1) cap (xs ++ T))) w2 → Cells w2 (sliA (sliA a 0 cap 4) i cap 4) (xs.drop (i * 4)) := fun hf => by
      rw [hAi]
      have := sli_cells (rw_cells hf.x.2) i ((n - i) * 4) cap 4 (by rw [List.length_append, hxl]; omega) (by rw [List.length_append, hxl, hTl]; omega) (by decide)
      rw [List.drop_append_of_le_length (by rw [hxl]; omega), List.take_append_of_le_length (by rw [hdl]; omega), List.take_of_length_le (by rw [hdl]; omega)] at this
      exact this
    have hres : spl (spl (xs ++ T) ((i + 1) * 4) (xs.drop (i * 4))) (i * 4) us = xs.take (i * 4) ++ us ++ xs.drop (i * 4) := by
      have := ins_in (P := xs.take (i * 4)) (Q := xs.drop (i * 4)) (T := T) (us := us) (by rw [hul, hTl])
      rw [htl, hul, List.take_append_drop] at this
      rw [show (i + 1) * 4 = i * 4 + 4 by omega]; exact this
    refine ⟨?_, ?_⟩
    · refine node_from (l := i + 1) (n := n + 1) (cap := cap) (sz := 4) (sliA a 0 cap 4) Try.underlying40 (by kernel_rfl) info_kp (by intros; kernel_rfl) (fun ids => Eq.trans (b := .int .i64 (IntKind.i64.wrap ((i : Int) + 1))) (by kernel_rfl) (by rw [hwi])) (by omega) (by intros; kernel_rfl) (by kernel_rfl) (by kernel_rfl) (by kernel_rfl) ?_
      refine node_from (l := i) (n := n + 1) (cap := cap) (sz := 4) (sliA a 0 cap 4) Try.underlying40 (by kernel_rfl) info_kp (by intros; kernel_rfl) (by intros; kernel_rfl) (by omega) (by intros; kernel_rfl) (by kernel_rfl) (by kernel_rfl) (by kernel_rfl) ?_
      refine node_copy (sz := 4) (e := 48) rfl Try.underlying40 info_kp (by decide) a (n + 1) cap (i + 1) (xs ++ T) (sliA (sliA a 0 cap 4) (i + 1) cap 4) (n + 1 - (i + 1)) (cap - (i + 1)) (fun _ => sliA (sliA a 0 cap 4) i cap 4) (n + 1 - i) (cap - i) (n - i) (xs.drop (i * 4)) (by intros; kernel_rfl) (fun ids hp => by kernel_rfl) (fun _ _ => hAi _) (by show min _ _ = _; omega) hdl (by omega) hone (fun ids w2 hp hf => hcs1 (ys := xs) hf) (fun q _ _ z => z.elim) (fun k h1 h2 => .inr (.inr ⟨h1, h2⟩)) (by intros; kernel_rfl) (by kernel_rfl) (by kernel_rfl) (by kernel_rfl) ?_
      refine node_from (l := i) (n := n + 1) (cap := cap) (sz := 4) (sliA a 0 cap 4) Try.underlying40 (by kernel_rfl) info_kp (by intros; kernel_rfl) (by intros; kernel_rfl) (by omega) (by intros; kernel_rfl) (by kernel_rfl) (by kernel_rfl) (by kernel_rfl) ?_
      refine node_copy (sz := 4) (e := 48) rfl Try.underlying40 info_kp (by decide) a (n + 1) cap i _ (sliA (sliA a 0 cap 4) i cap 4) (n + 1 - i) (cap - i) (fun ids => some ⟨idAt ids 0, 0, none⟩) 1 1 1 us (by intros; kernel_rfl) (fun ids hp => by kernel_rfl) (fun _ _ => hAi _) (Nat.min_eq_left (by omega)) (by rw [hul]) (by omega) huo (fun ids w2 hp hf => by rw [eus]; exact blk_cells (hf.blkAt 0 rfl)) (fun q _ _ z => z.elim) (fun k h1 h2 => .inr (.inr ⟨h1, h2⟩)) (by intros; kernel_rfl) (by kernel_rfl) (by kernel_rfl) (by kernel_rfl) ?_
      rw [hres]
      intro ids w2 hp hf
      exact ⟨a, cap, Eq.trans (b := .returned (.slice (sliA a 0 cap 4) (n + 1) cap)) (by kernel_rfl) (by rw [hA]; rfl), hf.x.2, fun k h1 h2 => .inl ⟨h1, h2⟩, hf.chg.but (same (m := ⟨[], _⟩) hp hf (by kernel_rfl))⟩
    · refine node_from (l := i) (n := n + 1) (cap := cap) (sz := 4) (sliA a 0 cap 4) Try.underlying40 (by kernel_rfl) info_kp (by intros; kernel_rfl) (by intros; kernel_rfl) (by omega) (by intros; kernel_rfl) (by kernel_rfl) (by kernel_rfl) (by kernel_rfl) ?_
      refine node_from (l := i + 1) (n := n + 1) (cap := cap) (sz := 4) (sliA a 0 cap 4) Try.underlying40 (by kernel_rfl) info_kp (by intros; kernel_rfl) (fun ids => Eq.trans (b := .int .i64 (IntKind.i64.wrap ((i : Int) + 1))) (by kernel_rfl) (by rw [hwi])) (by omega) (by intros; kernel_rfl) (by kernel_rfl) (by kernel_rfl) (by kernel_rfl) ?_
      refine node_copy (sz := 4) (e := 48) rfl Try.underlying40 info_kp (by decide) a (n + 1) cap (i + 1) (xs ++ T) (sliA (sliA a 0 cap 4) (i + 1) cap 4) (n + 1 - (i + 1)) (cap - (i + 1)) (fun _ => sliA (sliA a 0 cap 4) i cap 4) (n + 1 - i) (cap - i) (n - i) (xs.drop (i * 4)) (by intros; kernel_rfl) (fun ids hp => by kernel_rfl) (fun _ _ => hAi _) (by show min _ _ = _; omega) hdl (by omega) hone (fun ids w2 hp hf => hcs1 (ys := xs) hf) (fun q _ _ z => z.elim) (fun k h1 h2 => .inr (.inr ⟨h1, h2⟩)) (by intros; kernel_rfl) (by kernel_rfl) (by kernel_rfl) (by kernel_rfl) ?_
      refine node_from (l := i) (n := n + 1) (cap := cap) (sz := 4) (sliA a 0 cap 4) Try.underlying40 (by kernel_rfl) info_kp (by intros; kernel_rfl) (by intros; kernel_rfl) (by omega) (by intros; kernel_rfl) (by kernel_rfl) (by kernel_rfl) (by kernel_rfl) ?_
      refine node_copy (sz := 4) (e := 48) rfl Try.underlying40 info_kp (by decide) a (n + 1) cap i _ (sliA (sliA a 0 cap 4) i cap 4) (n + 1 - i) (cap - i) (fun ids => some ⟨idAt ids 0, 0, none⟩) 1 1 1 us (by intros; kernel_rfl) (fun ids hp => by kernel_rfl) (fun _ _ => hAi _) (Nat.min_eq_left (by omega)) (by rw [hul]) (by omega) huo (fun ids w2 hp hf => by rw [eus]; exact blk_cells (hf.blkAt 0 rfl)) (fun q _ _ z => z.elim) (fun k h1 h2 => .inr (.inr ⟨h1, h2⟩)) (by intros; kernel_rfl) (by kernel_rfl) (by kernel_rfl) (by kernel_rfl) ?_
      rw [hres]
      intro ids w2 hp hf
      exact ⟨a, cap, Eq.trans (b := .returned (.slice (sliA a 0 cap 4) (n + 1) cap)) (by kernel_rfl) (by rw [hA]; rfl), hf.x.2, fun k h1 h2 => .inl ⟨h1, h2⟩, hf.chg.but (same (m := ⟨[], _⟩) hp hf (by kernel_rfl))⟩
  · obtain rfl : cap = n := by omega
    refine calls_at (tab_ok _) Try.func26 rfl tInsK (ρ := ⟨[(i : Int), q1, q2, q3, q4], [], [], [cap, cap], [a]⟩) (ids := [b]) (hx := HX.nil.and (HX.rw 4 48 a cap cap xs)) (M := fun k => k = b ∨ (cap ≠ 0 ∧ abk a = some k)) rfl (Facts.initx rfl oneNil hb (by kernel_rfl) (.inl rfl) ⟨trivial, H⟩ (fun k hk => hk.elim (fun q => q.elim) (fun q => ⟨rw_blt H q.1 q.2, hna k q.1 q.2⟩))) ?_
    refine node_from (l := i) (n := cap) (cap := cap) (sz := 4) a Try.underlying40 (by kernel_rfl) info_kp (by intros; kernel_rfl) (by intros; kernel_rfl) (by omega) (by intros; kernel_rfl) (by kernel_rfl) (by kernel_rfl) (by kernel_rfl) ?_
    refine br_F ((i : Int) == (cap : Int)) (by kernel_rfl) (beq_eq_false_iff_ne.2 (by omega)) ?_
    refine node_cap rfl Try.underlying40 a cap cap (by intros; kernel_rfl) (by intros; kernel_rfl) (by kernel_rfl) (by kernel_rfl) (by kernel_rfl) ?_
    refine br_T (decide (IntKind.i64.wrap ((cap : Int) + 1) > (cap : Int))) (by kernel_rfl) (decide_eq_true (by rw [hwn]; omega)) ?_
    refine node_upto (u := i) (n := cap) (cap := cap) (sz := 4) a Try.underlying40 (by kernel_rfl) info_kp (by intros; kernel_rfl) (by intros; kernel_rfl) (fun ids w2 hf => hi) (by intros; kernel_rfl) (by kernel_rfl) (by kernel_rfl) (by kernel_rfl) ?_
    refine node_zeros (sz := 4) (z := (.agg #[.int .i64 0, .int .i64 0, .int .i64 0, .int .i64 0])) rfl Try.underlying40 (by kernel_rfl) info_kp rfl (by decide) (by intro v hv; simp [Value.cells] at hv; rcases hv with rfl | rfl | rfl | rfl <;> rfl) (sliA a 0 cap 4) i cap (cap + 1 - i) (xs.take (i * 4)) (by omega) (by omega) htl (fun u hu => hxo u (List.mem_of_mem_take hu)) (fun ids w2 hp hf => ?_) (by omega) (by decide) (by intros; kernel_rfl) (fun ids => Eq.trans (b := .int .i64 (IntKind.i64.wrap (IntKind.i64.wrap ((cap : Int) + 1) - (i : Int)))) (by kernel_rfl) (by rw [hwk])) (by intros; kernel_rfl) (by kernel_rfl) (by kernel_rfl) (by intros; kernel_rfl) ?_
    · have := sli_cells (rw_cells hf.x.2) 0 (i * 4) cap 4 (by omega) (Nat.le_of_eq hxl) (by decide)
      rw [Nat.zero_mul, List.drop_zero] at this
      exact this
    intro g3 c3 hc3 hge3 hnew3 hnF3
    obtain ⟨N, eN⟩ : ∃ N, N = i + (cap + 1 - i) := ⟨_, rfl⟩
    have hN : N = cap + 1 := by omega
    obtain ⟨Z, eZ⟩ : ∃ Z, Z = (Builtin.zeroCells (Value.cells (.agg #[.int .i64 0, .int .i64 0, .int .i64 0, .int .i64 0])) (cap + 1 - i)).toList := ⟨_, rfl⟩
    have hZl : Z.length = (cap + 1 - i) * 4 := by rw [eZ, zeroCells_len]; rfl
    rw [← eZ, ← eN]
    have hdis3 : ∀ q, c3 ≠ 0 → abk (some (⟨g3, 0, none⟩ : Addr)) = some q → ¬ (HX.nil.and (HX.rw 4 48 a cap cap xs)).F q := fun q _ h2 => by cases h2; exact hnF3
    refine node_from (l := i) (n := N) (cap := c3) (sz := 4) (some ⟨g3, 0, none⟩) Try.underlying40 (by kernel_rfl) info_kp (by intros; kernel_rfl) (by intros; kernel_rfl) (by omega) (by intros; kernel_rfl) (by kernel_rfl) (by kernel_rfl) (by kernel_rfl) ?_
    refine node_copy (sz := 4) (e := 48) rfl Try.underlying40 info_kp (by decide) (some ⟨g3, 0, none⟩) N c3 i (xs.take (i * 4) ++ Z) (sliA (some ⟨g3, 0, none⟩) i c3 4) (N - i) (c3 - i) (fun ids => some ⟨idAt ids 0, 0, none⟩) 1 1 1 us (by intros; kernel_rfl) (fun ids hp => by kernel_rfl) (fun _ _ => rfl) (Nat.min_eq_left (by omega)) (by rw [hul]) (by omega) huo (fun ids w2 hp hf => ?_) hdis3 (fun q _ h2 => by cases h2; exact .inl hnew3) (by intros; kernel_rfl) (by kernel_rfl) (by kernel_rfl) (by kernel_rfl) ?_
    · have e0 := hf.blkAt 0 rfl
      rw [eus]; exact blk_cells e0
    have hres : spl (spl (xs.take (i * 4) ++ Z) (i * 4) us) ((i + 1) * 4) (xs.drop (i * 4)) = xs.take (i * 4) ++ us ++ xs.drop (i * 4) := by
      have := ins_new (P := xs.take (i * 4)) (Q := xs.drop (i * 4)) (Z := Z) (us := us) (by rw [hZl, hul, hdl]; omega)
      rw [htl, hul] at this
      rw [show (i + 1) * 4 = i * 4 + 4 by omega]; exact this
    have hcs2 : ∀ {m : Mem} {ρ : Env} {ids : List Nat} {hx2 : HX} {w2 : World} {R : Ending → World → Prop}, Facts ⟨Try.prog, w, fun k => k = b ∨ (cap ≠ 0 ∧ abk a = some k), R⟩ m ρ ids ((HX.nil.and (HX.rw 4 48 a cap cap xs)).and hx2) w2 → Cells w2 (sliA a i cap 4) (xs.drop (i * 4)) := fun hf => by
      have := sli_cells (rw_cells hf.x.1.2) i ((cap - i) * 4) cap 4 (by rw [hxl]; omega) (Nat.le_of_eq hxl) (by decide)
      rw [List.take_of_length_le (by rw [hdl]; omega)] at this
      exact this
    refine ⟨?_, ?_⟩
    · refine node_from (l := i + 1) (n := N) (cap := c3) (sz := 4) (some ⟨g3, 0, none⟩) Try.underlying40 (by kernel_rfl) info_kp (by intros; kernel_rfl) (fun ids => Eq.trans (b := .int .i64 (IntKind.i64.wrap ((i : Int) + 1))) (by kernel_rfl) (by rw [hwi])) (by omega) (by intros; kernel_rfl) (by kernel_rfl) (by kernel_rfl) (by kernel_rfl) ?_
      refine node_from (l := i) (n := cap) (cap := cap) (sz := 4) a Try.underlying40 (by kernel_rfl) info_kp (by intros; kernel_rfl) (by intros; kernel_rfl) (by omega) (by intros; kernel_rfl) (by kernel_rfl) (by kernel_rfl) (by kernel_rfl) ?_
      refine node_copy (sz := 4) (e := 48) rfl Try.underlying40 info_kp (by decide) (some ⟨g3, 0, none⟩) N c3 (i + 1) _ (sliA (some ⟨g3, 0, none⟩) (i + 1) c3 4) (N - (i + 1)) (c3 - (i + 1)) (fun _ => sliA a i cap 4) (cap - i) (cap - i) (cap - i) (xs.drop (i * 4)) (by intros; kernel_rfl) (fun ids hp => by kernel_rfl) (fun _ _ => rfl) (Nat.min_eq_left (by omega)) hdl (by omega) hone (fun ids w2 hp hf => hcs2 hf) hdis3 (fun q _ h2 => by cases h2; exact .inl hnew3) (by intros; kernel_rfl) (by kernel_rfl) (by kernel_rfl) (by kernel_rfl) ?_
      rw [hres]
      intro ids w2 hp hf
      subst hN
      exact ⟨some ⟨g3, 0, none⟩, c3, by kernel_rfl, hf.x.2, fun k h1 h2 => by cases h2; exact .inr hnew3, hf.chg.but (same (m := ⟨[], _⟩) hp hf (by kernel_rfl))⟩
    · refine node_from (l := i) (n := cap) (cap := cap) (sz := 4) a Try.underlying40 (by kernel_rfl) info_kp (by intros; kernel_rfl) (by intros; kernel_rfl) (by omega) (by intros; kernel_rfl) (by kernel_rfl) (by kernel_rfl) (by kernel_rfl) ?_
      refine node_from (l := i + 1) (n := N) (cap := c3) (sz := 4) (some ⟨g3, 0, none⟩) Try.underlying40 (by kernel_rfl) info_kp (by intros; kernel_rfl) (fun ids => Eq.trans (b := .int .i64 (IntKind.i64.wrap ((i : Int) + 1))) (by kernel_rfl) (by rw [hwi])) (by omega) (by intros; kernel_rfl) (by kernel_rfl) (by kernel_rfl) (by kernel_rfl) ?_
      refine node_copy (sz := 4) (e := 48) rfl Try.underlying40 info_kp (by decide) (some ⟨g3, 0, none⟩) N c3 (i + 1) _ (sliA (some ⟨g3, 0, none⟩) (i + 1) c3 4) (N - (i + 1)) (c3 - (i + 1)) (fun _ => sliA a i cap 4) (cap - i) (cap - i) (cap - i) (xs.drop (i * 4)) (by intros; kernel_rfl) (fun ids hp => by kernel_rfl) (fun _ _ => rfl) (Nat.min_eq_left (by omega)) hdl (by omega) hone (fun ids w2 hp hf => hcs2 hf) hdis3 (fun q _ h2 => by cases h2; exact .inl hnew3) (by intros; kernel_rfl) (by kernel_rfl) (by kernel_rfl) (by kernel_rfl) ?_
      rw [hres]
      intro ids w2 hp hf
      subst hN
      exact ⟨some ⟨g3, 0, none⟩, c3, by kernel_rfl, hf.x.2, fun k h1 h2 => by cases h2; exact .inr hnew3, hf.chg.but (same (m := ⟨[], _⟩) hp hf (by kernel_rfl))⟩
end Go.Proofs.Ythgkgllllomeeaa
