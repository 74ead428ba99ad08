/- Parts of any message. -/
import Derived.Test.YtgphmdccmaibmaaMsg
import Derived.Test.YtgphmdccmaibmaaFetN
namespace Go.Proofs.Ytgphmdccmaibmaa
open Go.ChangeShapes Go.WideShapes Go.ChangeAt Go.RowKit Go.Syn Go.Eng
set_option linter.unusedVariables false
set_option linter.unusedSimpArgs false
section
variable {nb : Nat} {a : Option Addr} {cap : Nat} {f : Ft} {m : Mi} {q0 q1 qv : Option Addr} {n0 c0 n1 d1 nv cv : Nat} {ad : Option Addr} {cd : Nat} {d : List Int} {w : World}
/-! ### Parts -/
theorem partg_bad (hk : m.k = 12) (H : FetAt w nb a cap f) (Hd : Cells w ad (bcells d)) (hd : ∀ k, (HX.cl ad (bcells d)).F k → k ≠ nb) (hgl : f.got.length ≤ 1000000) (hsz : 0 ≤ f.size ∧ f.size ≤ 1000000) (h : f.slot = 0 ∨ m.slot ≠ f.slot ∨ m.low ≠ f.got.length ∨ d = [] ∨ f.size - f.got.length < d.length) :
    Calls Try.prog 14 #[.pointer (some ⟨nb, 0, none⟩), .agg (mgV m (.slice q0 n0 c0) (.slice q1 n1 d1) (.slice qv nv cv) (.slice ad d.length cd))] w (FR w nb a cap f [] (fun v => .tuple #[v, .int .i64 0, .int .i64 60])) := by
  refine calls_at (tab_ok _) Try.func14 rfl tPartG (ρ := ⟨m.is ++ [f.src, f.slot, f.size], [], [.string f.sum], [f.got.length, cap, n0, c0, n1, d1, nv, cv, d.length, cd], [a, q0, q1, qv, ad]⟩) (ids := [nb]) (hx := (HX.cl ad (bcells d)).and (frow a cap f.got)) (M := fun x => x = nb ∨ (cap ≠ 0 ∧ abk a = some x)) rfl (Facts.initx rfl (fun v hv => by simp only [List.mem_singleton] at hv; subst hv; rfl) H.blk rfl (.inl rfl) ⟨Hd, H.mem⟩ (off_init H Hd hd)) ?_
  refine br_f (show (m.k != 12) = false by simp [hk]) ?_
  by_cases c1 : f.slot = 0
  · exact br_t (show (f.slot == 0) = true by simpa using c1) (fet_keep (fun _ => rfl) (fun _ => rfl) (fun _ h => h.2))
  refine br_f (show (f.slot == 0) = false by simpa using c1) ?_
  by_cases c2 : m.slot ≠ f.slot
  · exact br_t (show (m.slot != f.slot) = true by simpa using c2) (fet_keep (fun _ => rfl) (fun _ => rfl) (fun _ h => h.2))
  refine br_f (show (m.slot != f.slot) = false by simp; omega) ?_
  by_cases c3 : m.low ≠ f.got.length
  · exact br_t (show (m.low != (f.got.length : Int)) = true by simpa using c3) (fet_keep (fun _ => rfl) (fun _ => rfl) (fun _ h => h.2))
  refine br_f (show (m.low != (f.got.length : Int)) = false by simp; omega) ?_
  by_cases c4 : d = []
  · exact br_t (show ((d.length : Int) == 0) = true by simp [c4]) (fet_keep (fun _ => rfl) (fun _ => rfl) (fun _ h => h.2))
  refine br_f (show ((d.length : Int) == 0) = false by simpa using c4) ?_
  have hwr : IntKind.i64.wrap (f.size - (f.got.length : Int)) = f.size - f.got.length := wrap_i64 (by omega)
  have h9 : f.size - f.got.length < d.length := by
    rcases h with h | h | h | h | h
    · exact absurd h c1
    · exact absurd h c2
    · exact absurd h c3
    · exact absurd h c4
    · exact h
  refine br_t (show decide ((d.length : Int) > IntKind.i64.wrap (f.size - (f.got.length : Int))) = true by rw [hwr]; simpa using h9) (fet_keep (fun _ => rfl) (fun _ => rfl) (fun _ h => h.2))
set_option maxRecDepth 100000 in
theorem partg_good (hk : m.k = 12) (H : FetAt w nb a cap f) (Hd : Cells w ad (bcells d)) (hd : ∀ k, (HX.cl ad (bcells d)).F k → k ≠ nb ∧ ¬ (cap ≠ 0 ∧ abk a = some k)) (hgl : f.got.length ≤ 1000000) (hsz : 0 ≤ f.size ∧ f.size ≤ 1000000) (c1 : f.slot ≠ 0) (c2 : m.slot = f.slot) (c3 : m.low = f.got.length) (c4 : d ≠ []) (c5 : (d.length : Int) ≤ f.size - f.got.length)
    (hsum : (f.got ++ d).length = f.size → strOfNums (eightB (sumB (f.got ++ d))) = f.sum) :
    Calls Try.prog 14 #[.pointer (some ⟨nb, 0, none⟩), .agg (mgV m (.slice q0 n0 c0) (.slice q1 n1 d1) (.slice qv nv cv) (.slice ad d.length cd))] w (fun e w' => if (f.got ++ d).length < f.size then FR w nb a cap ⟨f.src, f.slot, f.size, f.sum, f.got ++ d⟩ [] (fun v => .tuple #[v, .int .i64 0, .int .i64 0]) e w' else FR w nb a cap Ft.zero (f.got ++ d) (fun v => .tuple #[v, .int .i64 f.slot, .int .i64 0]) e w') := by
  have hdn : 0 < d.length := List.length_pos_iff.2 c4
  have hgd : (f.got ++ d).length = f.got.length + d.length := List.length_append
  refine calls_at (tab_ok _) Try.func14 rfl tPartG (ρ := ⟨m.is ++ [f.src, f.slot, f.size], [], [.string f.sum], [f.got.length, cap, n0, c0, n1, d1, nv, cv, d.length, cd], [a, q0, q1, qv, ad]⟩) (ids := [nb]) (hx := (HX.cl ad (bcells d)).and (frow a cap f.got)) (M := fun x => x = nb ∨ (cap ≠ 0 ∧ abk a = some x)) rfl (Facts.initx rfl (fun v hv => by simp only [List.mem_singleton] at hv; subst hv; rfl) H.blk rfl (.inl rfl) ⟨Hd, H.mem⟩ (off_init H Hd (fun k hk => (hd k hk).1))) ?_
  have hwr : IntKind.i64.wrap (f.size - (f.got.length : Int)) = f.size - f.got.length := wrap_i64 (by omega)
  refine br_f (show (m.k != 12) = false by simp [hk]) (br_f (show (f.slot == 0) = false by simpa using c1) (br_f (show (m.slot != f.slot) = false by simp; omega) (br_f (show (m.low != (f.got.length : Int)) = false by simp; omega) (br_f (show ((d.length : Int) == 0) = false by simpa using c4) (br_f (show decide ((d.length : Int) > IntKind.i64.wrap (f.size - (f.got.length : Int))) = false by rw [hwr]; simp; omega) ?_)))))
  refine node_appends rfl Try.underlying22 info_byte rfl (by decide) a f.got.length cap (bcells f.got) (fun _ => ad) d.length cd (bcells d) (by rw [bcells_len, Nat.mul_one]) (rest := HX.cl ad (bcells d)) (fun ids w2 _ hf => hf.x.2) (fun ids w2 hp hf => hf.x.1) (bcells_one _) (fun w h => ⟨h.1, fun _ q => .inl q⟩) (fun k h1 h2 => .inr ⟨h1, h2⟩) (fun k h1 h2 q => (hd k q).2 ⟨h1, h2⟩) (fun k h1 h2 => .inr (.inr ⟨h1, h2⟩)) (by unfold maxLen; omega) (by omega) (fun _ => rfl) (fun _ _ => rfl) (fun _ _ _ => rfl) rfl rfl (fun _ _ => rfl) ?_
  intro a1 c1' _ hd1 hw1
  have eb : bcells f.got ++ bcells d = bcells (f.got ++ d) := by unfold bcells; rw [List.map_append]
  have erow : HX.rw 1 5 a1 (f.got.length + d.length) c1' (bcells f.got ++ bcells d) = frow a1 c1' (f.got ++ d) := by unfold frow; rw [eb, hgd]
  rw [erow]
  have hw1' : ∀ k, c1' ≠ 0 → abk a1 = some k → (cap ≠ 0 ∧ abk a = some k) ∨ w.heap.size ≤ k := fun k h1 h2 => (hw1 k h1 h2).imp_right fun q => q.1
  have hdone : ∀ {ids : List Nat} {w2 : World} {m : Mem} {ρ' : Env} {hx : HX}, Facts ⟨Try.prog, w, fun x => x = nb ∨ (cap ≠ 0 ∧ abk a = some x), fun e w' => if (f.got ++ d).length < f.size then FR w nb a cap ⟨f.src, f.slot, f.size, f.sum, f.got ++ d⟩ [] (fun v => .tuple #[v, .int .i64 0, .int .i64 0]) e w' else FR w nb a cap Ft.zero (f.got ++ d) (fun v => .tuple #[v, .int .i64 f.slot, .int .i64 0]) e w'⟩ m ρ' ids hx w2 → Chg (fun x => x = nb ∨ (cap ≠ 0 ∧ abk a = some x)) w w2 := fun hf => hf.chg
  by_cases hlt : ((f.got ++ d).length : Int) < f.size
  · refine br_t (show decide (((f.got.length + d.length : Nat) : Int) < f.size) = true by rw [← hgd]; simpa using hlt) ?_
    intro ids w2 hp hf
    show ite _ _ _
    rw [if_pos hlt]
    have h0 := hf.blkAt 0 rfl
    rw [idAt0 hp] at h0
    refine ⟨a1, c1', none, 0, rfl, ?_, fun q => by simp [bcells] at q, hf.x.2, hdone hf, fun k h1 h2 => ⟨hw1' k h1 h2, cl_nil_no _ _⟩, fun k hk => absurd hk (cl_nil_no _ _)⟩
    show Blk w2 nb [.int .i64 f.src, .int .i64 f.slot, .int .i64 f.size, .string f.sum, .slice a1 (f.got ++ d).length c1'] 61
    rw [hgd]; exact h0
  · refine br_f (show decide (((f.got.length + d.length : Nat) : Int) < f.size) = false by rw [← hgd]; simpa using hlt) ?_
    have hle : ∀ {w : World}, (frow a1 c1' (f.got ++ d)).X w → Cells w a1 (bcells (f.got ++ d)) := fun h => rw_cells h
    refine node_newd (V := id) (bs := sealB (f.got ++ d)) (fun a' c' => ⟨[], [], [], [(sealB (f.got ++ d)).length, c'], [a']⟩) (fun ids w2 hp hf => by
      have := seal_any a1 c1' (f.got ++ d) w2 (hle hf.x.2) (by rw [hgd]; omega)
      rw [hgd] at this
      exact this) (fun _ _ _ => rfl) rfl rfl (fun _ _ => rfl) (fun _ _ => oneNil) ?_
    intro a2 c2' hc2 hn2
    have hsl := sealB_len (f.got ++ d)
    refine node_from (l := f.got.length + d.length) (n := (sealB (f.got ++ d)).length) (cap := c2') (sz := 1) a2 Try.underlying22 rfl info_byte (fun _ => rfl) (fun _ => rfl) (by rw [hsl, hgd]; omega) (fun _ => rfl) rfl rfl rfl ?_
    have e8 : (sealB (f.got ++ d)).length - (f.got.length + d.length) = (eightB (sumB (f.got ++ d))).length := by rw [hsl, hgd]; show _ = 8; omega
    rw [e8]
    refine node_text Try.underlying22 Try.underlying5 Try.underlying9 (sliA a2 (f.got.length + d.length) c2' 1) (c2' - (f.got.length + d.length)) (eightB (sumB (f.got ++ d))) (fun _ => rfl) (fun ids w2 hp hf => ?_) (fun _ => rfl) rfl rfl rfl ?_
    · have := sli_cells hf.x.2 (f.got.length + d.length) 8 c2' 1 (by rw [bcells_len, hsl, hgd]; omega) (by rw [bcells_len]; omega) (by decide)
      rw [Nat.mul_one, bcells_sub, ← hgd, sealB_drop] at this
      rw [← hgd]
      exact this
    refine node_texteq (strOfNums (eightB (sumB (f.got ++ d)))) f.sum (fun _ => rfl) (fun _ => rfl) (fun _ => rfl) rfl rfl rfl ?_
    refine br_f (show (!((strOfNums (eightB (sumB (f.got ++ d)))).toList == f.sum.toList)) = false by rw [hsum (by omega)]; simp) ?_
    intro ids w2 hp hf
    show ite _ _ _
    rw [if_neg hlt]
    have h0 := hf.blkAt 0 rfl
    rw [idAt0 hp] at h0
    have hrow := hf.x.1.2
    refine ⟨none, 0, a1, c1', ?_, h0, hle hrow, HX.rw_nil _ _ _ _, hdone hf, fun k h1 => absurd rfl h1, fun k hk => ?_⟩
    · rw [hgd]; rfl
    · obtain ⟨h1, h2⟩ := (rw_cl hrow).2 k hk
      exact hw1' k h1 h2
theorem partg_more (hk : m.k = 12) (H : FetAt w nb a cap f) (Hd : Cells w ad (bcells d)) (hd : ∀ k, (HX.cl ad (bcells d)).F k → k ≠ nb ∧ ¬ (cap ≠ 0 ∧ abk a = some k)) (hgl : f.got.length ≤ 1000000) (hsz : 0 ≤ f.size ∧ f.size ≤ 1000000) (c1 : f.slot ≠ 0) (c2 : m.slot = f.slot) (c3 : m.low = f.got.length) (c4 : d ≠ []) (c5 : ((f.got ++ d).length : Int) < f.size) :
    Calls Try.prog 14 #[.pointer (some ⟨nb, 0, none⟩), .agg (mgV m (.slice q0 n0 c0) (.slice q1 n1 d1) (.slice qv nv cv) (.slice ad d.length cd))] w (FR w nb a cap ⟨f.src, f.slot, f.size, f.sum, f.got ++ d⟩ [] (fun v => .tuple #[v, .int .i64 0, .int .i64 0])) := by
  have hl : (f.got ++ d).length = f.got.length + d.length := List.length_append
  refine (partg_good hk H Hd hd hgl hsz c1 c2 c3 c4 (by omega) (fun h => by omega)).mono fun e w' h => ?_
  rw [if_pos c5] at h; exact h
theorem partg_last (hk : m.k = 12) (H : FetAt w nb a cap f) (Hd : Cells w ad (bcells d)) (hd : ∀ k, (HX.cl ad (bcells d)).F k → k ≠ nb ∧ ¬ (cap ≠ 0 ∧ abk a = some k)) (hgl : f.got.length ≤ 1000000) (hsz : 0 ≤ f.size ∧ f.size ≤ 1000000) (c1 : f.slot ≠ 0) (c2 : m.slot = f.slot) (c3 : m.low = f.got.length) (c4 : d ≠ []) (c5 : ((f.got ++ d).length : Int) = f.size) (c6 : strOfNums (eightB (sumB (f.got ++ d))) = f.sum) :
    Calls Try.prog 14 #[.pointer (some ⟨nb, 0, none⟩), .agg (mgV m (.slice q0 n0 c0) (.slice q1 n1 d1) (.slice qv nv cv) (.slice ad d.length cd))] w (FR w nb a cap Ft.zero (f.got ++ d) (fun v => .tuple #[v, .int .i64 f.slot, .int .i64 0])) := by
  have hl : (f.got ++ d).length = f.got.length + d.length := List.length_append
  refine (partg_good hk H Hd hd hgl hsz c1 c2 c3 c4 (by omega) (fun _ => c6)).mono fun e w' h => ?_
  rw [if_neg (by omega)] at h; exact h
end
end Go.Proofs.Ytgphmdccmaibmaa
