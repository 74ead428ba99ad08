/- The fetch: its methods; offers and answers. -/
import Derived.Test.YtgphmdccmaibmaaSeal
namespace Go.Proofs.Ytgphmdccmaibmaa
open Go.ChangeShapes Go.WideShapes Go.ChangeAt Go.RowKit Go.Syn Go.Eng
set_option linter.unusedVariables false
set_option linter.unusedSimpArgs false
/-- A message of a kind, a slot, a number and bytes. -/
def msgV (k slot low : Int) (d : Value) : Array Value := #[.int .i64 k, .int .i64 0, .int .i64 0, .int .i64 0, .int .i64 0, .int .i64 0, .int .i64 slot, .int .i64 low, .int .i64 0, .int .i64 0, .slice none 0 0, .slice none 0 0, .slice none 0 0,
  .int .i64 0, .int .i64 0, .int .i64 0, .int .i64 0, .int .i64 0, .int .i64 0, .int .i64 0, .int .i64 0, .int .i64 0, .int .i64 0, .int .i64 0, d]
section
variable {C : Cfg} {ρ : Env} {pre : List Nat} {hx rest : HX} {L : Stack} {m m' : Mem} {args : List SV} {r : SV} {t : Tree}
theorem node_newd {f : Nat} {V : Value → Value} {bs : List Int} (vs : Option Addr → Nat → Vals) (hcall : ∀ ids w, pre <+: ids → Facts C m ρ ids hx w → Calls C.P f (args.map (SV.den ρ ids)).toArray w (NewD w V bs))
    (hr : ∀ a' c' ids, r.den (ρ.add (vs a' c')) ids = V (.slice a' bs.length c')) (hhp : m'.hp = m.hp) (hfit : hpFits m.c m.hp.length m.hp = true) (hc : ∀ a' c', (ρ.add (vs a' c')).cnt = m'.c) (h1 : ∀ a' c' v, v ∈ (vs a' c').v → v.oneCell' = true)
    (h : ∀ a' c', bs.length ≤ c' → (bs ≠ [] → C.W.heap.size ≤ blk a' ∧ ¬ hx.F (blk a')) → t.holds C (ρ.add (vs a' c')) pre (hx.and (HX.cl a' (bcells bs))) L) : (Tree.call f args m r m' t).holds C ρ pre hx L := by
  intro ids w hp hf
  refine (hcall ids w hp hf).mono ?_
  rintro e w' ⟨a', c', rfl, hX, hge, hcl, hbel⟩
  have hg : w.grownBy w' none := ⟨hbel.os, hbel.tape, hbel.output, hbel.size, fun k hk _ => hbel.block k hk⟩
  refine ⟨_, ids, _, by rw [← hr a' c' ids], List.prefix_refl _, hf.turn (hx' := hx.and (HX.cl a' (bcells bs))) hg (fun b e => by cases e) ⟨hx.loc w w' hf.x fun k hk => hbel.block k (hf.sep k hk).1, hX⟩ (fun k hk => ?_) hhp hfit (hc _ _) (h1 _ _), holds_pre t hp (h a' c' hcl (fun hne => ⟨Nat.le_trans hf.chg.size (hge hne), fun q => by have := (hf.sep _ q).1; have := hge hne; omega⟩))⟩
  rcases hk with hk | hk
  · exact .inl hk
  · refine .inr ⟨?_, cl_sep hX k hk⟩
    obtain ⟨h1, rfl⟩ := hk
    exact hge (fun q => h1 (by rw [q]; rfl))
end
theorem cl_none (hx : HX) (a : Option Addr) : hx.and (HX.cl a (bcells [])) = hx := HX.ext (by
    funext k
    exact propext ⟨fun h => h.elim id fun h => absurd rfl h.1, .inl⟩) (by
    funext w
    exact propext ⟨fun h => h.1, fun h => ⟨h, fun q => by simp [bcells] at q⟩⟩)
theorem blk_sliA (a : Option Addr) (l cap sz : Nat) : blk (sliA a l cap sz) = blk a := by
  unfold sliA
  split
  · rfl
  · cases a with
    | none => rfl
    | some ad => simp only [Option.map_some]; show (ad.add (l * sz)).block = ad.block; unfold Addr.add; split <;> rfl
/-! ### Pieces, offers, answers -/
def pieceB (bs : List Int) (i : Int) : List Int := if i < 0 ∨ (bs.length : Int) ≤ i then [] else (bs.drop i.toNat).take 1024
theorem new_nil {w w' : World} {V : Value → Value} {v : Value} (hv : v = V (.slice none 0 0)) (h : Below w.heap.size w w') : NewD w V [] (.returned v) w' := ⟨none, 0, by rw [hv]; rfl, fun q => by simp [bcells] at q, fun q => absurd rfl q, Nat.le_refl _, h⟩
theorem bcells_sub (bs : List Int) (l k : Nat) : ((bcells bs).drop l).take k = bcells ((bs.drop l).take k) := by unfold bcells; rw [← List.map_drop, ← List.map_take]
set_option maxRecDepth 100000 in
theorem piece_any (a : Option Addr) (cap : Nat) (bs : List Int) (i : Int) (w : World) (H : Cells w a (bcells bs)) (hl : bs.length ≤ 140737488351232) (hcap : bs.length ≤ cap) : Calls Try.prog 22 #[.slice a bs.length cap, .int .i64 i] w (NewD w id (pieceB bs i)) := by
  refine calls_at (tab_ok _) Try.func22 rfl tPiece (ρ := ⟨[i], [], [], [bs.length, cap], [a]⟩) (ids := []) (hx := HX.cl a (bcells bs)) rfl (Facts.initq rfl oneNil H (cl_sep H)) ?_
  by_cases h1 : i < 0
  · refine br_t (show decide (i < 0) = true by simpa using h1) ?_
    intro ids w2 hp hf
    rw [show pieceB bs i = [] from if_pos (.inl h1)]
    exact new_nil (V := id) rfl hf.chg.below
  refine br_f (show decide (i < 0) = false by simpa using h1) ?_
  by_cases h2 : (bs.length : Int) ≤ i
  · refine br_t (show decide (i ≥ (bs.length : Int)) = true by simpa using h2) ?_
    intro ids w2 hp hf
    rw [show pieceB bs i = [] from if_pos (.inr h2)]
    exact new_nil (V := id) rfl hf.chg.below
  refine br_f (show decide (i ≥ (bs.length : Int)) = false by simpa using h2) ?_
  obtain ⟨n, rfl⟩ : ∃ n : Nat, i = (n : Int) := ⟨i.toNat, by omega⟩
  have hpc : pieceB bs (n : Int) = (bs.drop n).take 1024 := by unfold pieceB; rw [if_neg (by omega)]; rfl
  have hw1 : IntKind.i64.wrap ((n : Int) + 1024) = (n : Int) + 1024 := wrap_i64 (by omega)
  obtain ⟨u, hu0⟩ : ∃ u, u = min bs.length (n + 1024) := ⟨_, rfl⟩
  have hu : min (bs.length : Int) (IntKind.i64.wrap ((n : Int) + 1024)) = (u : Int) := by rw [hw1]; omega
  have hlen : (pieceB bs (n : Int)).length = u - n := by rw [hpc, List.length_take, List.length_drop]; omega
  refine node_span (l := n) (u := u) (n := bs.length) (cap := cap) (sz := 1) a Try.underlying22 rfl info_byte (fun _ => rfl) (fun _ => rfl) (fun _ => ?_) (by omega) (by omega) (fun _ => rfl) rfl rfl rfl ?_
  · show Value.int .i64 (min (bs.length : Int) (IntKind.i64.wrap ((n : Int) + 1024))) = _
    rw [hu]
  refine node_appends (xs := []) (ys := bcells (pieceB bs (n : Int))) rfl Try.underlying22 info_byte rfl (by decide) none 0 0 (fun _ => sliA a n cap 1) (u - n) (cap - n) (by rw [bcells_len, hlen, Nat.mul_one]) (fun ids w _ _ => HX.rw_nil _ _ _ w) (fun ids w2 hp hf => ?_) (bcells_one _) (fun w h => ⟨h, fun _ q => q⟩) (fun k h => absurd rfl h) (fun k h => absurd rfl h) (fun k h => absurd rfl h) (by unfold maxLen; omega) (by omega) (fun _ => rfl) (fun _ _ => rfl) (fun _ _ _ => rfl) rfl rfl (fun _ _ => rfl) ?_
  · have := sli_cells hf.x n 1024 cap 1 (by rw [bcells_len]; omega) (by rw [bcells_len]; omega) (by decide)
    rw [Nat.mul_one, bcells_sub, ← hpc] at this
    exact this
  intro a' c' h0 _ hfr ids w2 hp hf
  refine ⟨a', c', ?_, rw_cells hf.x.2, fun hne => ?_, by rw [hlen]; have := (rw_le hf.x.2).1; omega, hf.chg.below⟩
  · rw [hlen]; show Ending.returned (.slice a' (0 + _) c') = _; rw [Nat.zero_add]; rfl
  · have hc : c' ≠ 0 := by
      have := (rw_le hf.x.2).1
      have h5 : (pieceB bs (n : Int)).length ≠ 0 := fun q => hne (List.eq_nil_of_length_eq_zero q)
      omega
    obtain ⟨g, _, rfl, _⟩ := rw_open hf.x.2 hc
    exact (hfr g hc rfl).elim (fun q => absurd rfl q.1) (fun q => q.1)
theorem offer_any (slot : Int) (a : Option Addr) (cap : Nat) (bs : List Int) (w : World) (H : Cells w a (bcells bs)) (hl : bs.length ≤ 140737488351232) : Calls Try.prog 10 #[.int .i64 slot, .slice a bs.length cap] w (NewD w (fun v => .agg (msgV 10 slot bs.length v)) (eightB (sumB bs))) := by
  refine calls_at (tab_ok _) Try.func10 rfl tOffer (ρ := ⟨[slot], [], [], [bs.length, cap], [a]⟩) (ids := []) (hx := HX.cl a (bcells bs)) rfl (Facts.initq rfl oneNil H (cl_sep H)) ?_
  refine node_newd (V := id) (bs := sealB bs) (fun a' c' => ⟨[], [], [], [(sealB bs).length, c'], [a']⟩) (fun ids w2 hp hf => (seal_any a cap bs w2 hf.x hl)) (fun _ _ _ => rfl) rfl rfl (fun _ _ => rfl) (fun _ _ => oneNil) ?_
  intro a1 c1 hcc hn1
  refine node_from (l := bs.length) (n := (sealB bs).length) (cap := c1) (sz := 1) a1 Try.underlying22 rfl info_byte (fun _ => rfl) (fun _ => rfl) (by rw [sealB_len]; omega) (fun _ => rfl) rfl rfl rfl ?_
  intro ids w2 hp hf
  have hsl := sealB_len bs
  refine ⟨sliA a1 bs.length c1 1, c1 - bs.length, ?_, ?_, fun _ => ?_, ?_, hf.chg.below⟩
  · show Ending.returned (.agg (msgV 10 slot bs.length (.slice (sliA a1 bs.length c1 1) ((sealB bs).length - bs.length) (c1 - bs.length)))) = _
    rw [hsl, Nat.add_sub_cancel_left]; rfl
  · have := sli_cells hf.x.2 bs.length 8 c1 1 (by rw [bcells_len, hsl]; omega) (by rw [bcells_len]; omega) (by decide)
    rw [Nat.mul_one, bcells_sub, sealB_drop] at this
    exact this
  · rw [blk_sliA]; exact (hn1 (fun e => by have := congrArg List.length e; rw [hsl] at this; simp at this)).1
  · show 8 ≤ _
    omega
end Go.Proofs.Ytgphmdccmaibmaa
