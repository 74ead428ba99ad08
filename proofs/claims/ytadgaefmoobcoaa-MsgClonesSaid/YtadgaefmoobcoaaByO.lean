/- Bytes of one's own: rows, what hands them back. -/
import Derived.Test.YtadgaefmoobcoaaEng28
import Derived.Test.YtadgaefmoobcoaaBytes
namespace Go.Proofs.Ytadgaefmoobcoaa
open Go.ChangeShapes Go.WideShapes Go.ChangeAt Go.RowKit Go.Syn Go.Eng
set_option linter.unusedVariables false
set_option maxRecDepth 100000
set_option linter.unusedSimpArgs false
/-- The bytes that are there. -/
def frow (a : Option Addr) (cap : Nat) (bs : List Int) : HX := HX.rw 1 5 a bs.length cap (bcells bs)
theorem frow_none (hx : HX) : hx.and (frow none 0 []) = hx := HX.ext (by
    funext k
    exact propext ⟨fun h => h.elim id fun h => absurd rfl h.1, .inl⟩) (by
    funext w
    exact propext ⟨fun h => h.1, fun h => ⟨h, HX.rw_nil _ _ _ _⟩⟩)
theorem frow_snoc (a : Option Addr) (cap : Nat) (bs : List Int) (d : Int) : HX.rw 1 5 a (bs.length + 1) cap (bcells bs ++ [.int .u8 d]) = frow a cap (bs ++ [d]) := by
  unfold frow bcells
  rw [List.length_append, List.map_append]; rfl
theorem frow_app (a : Option Addr) (cap : Nat) (bs cs : List Int) : HX.rw 1 5 a (bs.length + cs.length) cap (bcells bs ++ bcells cs) = frow a cap (bs ++ cs) := by
  unfold frow bcells
  rw [List.length_append, List.map_append]
theorem frow_cells {a : Option Addr} {cap : Nat} {bs : List Int} {w : World} (h : (frow a cap bs).X w) : Cells w a (bcells bs) := rw_cells h
theorem frow_lt {a : Option Addr} {cap : Nat} {bs : List Int} {w : World} (h : (frow a cap bs).X w) {k : Nat} (h1 : cap ≠ 0) (h2 : abk a = some k) : k < w.heap.size := by
  obtain ⟨g, _, rfl, q, _⟩ := rw_open h h1
  cases h2; exact q
theorem frow_le {a : Option Addr} {cap : Nat} {bs : List Int} {w : World} (h : (frow a cap bs).X w) : bs.length ≤ cap := (rw_le h).1
theorem blk_sliA (a : Option Addr) (l cap sz : Nat) : blk (sliA a l cap sz) = blk a := by
  unfold sliA
  split
  · rfl
  · cases a with
    | none => rfl
    | some ad => simp only [Option.map_some]; show (ad.add (l * sz)).block = ad.block; unfold Addr.add; split <;> rfl
theorem bcells_sub (bs : List Int) (l k : Nat) : ((bcells bs).drop l).take k = bcells ((bs.drop l).take k) := by unfold bcells; rw [← List.map_drop, ← List.map_take]
theorem cl_none (hx : HX) (a : Option Addr) : hx.and (HX.cl a (bcells [])) = hx := HX.ext (by
    funext k
    exact propext ⟨fun h => h.elim id fun h => absurd rfl h.1, .inl⟩) (by
    funext w
    exact propext ⟨fun h => h.1, fun h => ⟨h, fun q => by simp [bcells] at q⟩⟩)
/-- New bytes, told of by a value. -/
def NewO (w : World) (V : Value → Value) (bs : List Int) (e : Ending) (w' : World) : Prop := ∃ a' c', e = .returned (V (.slice a' bs.length c')) ∧ (frow a' c' bs).X w' ∧ (∀ k, c' ≠ 0 → abk a' = some k → w.heap.size ≤ k) ∧ Below w.heap.size w w'
theorem row_some {a : Option Addr} {cap : Nat} {bs : List Int} {w : World} (h : (frow a cap bs).X w) (hne : bs ≠ []) : a.isSome = true := by
  have hc : cap ≠ 0 := fun q => by
    rcases h with ⟨_, _, h3⟩ | ⟨h3, _⟩
    · exact hne (bcells_nil.1 h3)
    · exact h3 q
  obtain ⟨g, _, rfl, _⟩ := rw_open h hc
  rfl
section
variable {C : Cfg} {ρ : Env} {pre : List Nat} {hx rest : HX} {L : Stack} {m m' : Mem} {args : List SV} {r : SV} {t : Tree} {a : Option Addr} {cap : Nat} {g : List Int}
theorem node_newo {f : Nat} {V : Value → Value} {bs : List Int} (AS : Array Value) (vs : Option Addr → Nat → Vals) (hargs : ∀ ids, (args.map (SV.den ρ ids)).toArray = AS) (hcall : ∀ ids w, pre <+: ids → Facts C m ρ ids hx w → Calls C.P f AS w (NewO w V bs))
    (hr : ∀ a' c' ids, r.den (ρ.add (vs a' c')) ids = V (.slice a' bs.length c')) (hhp : m'.hp = m.hp) (hfit : hpFits m.c m.hp.length m.hp = true) (hc : ∀ a' c', (ρ.add (vs a' c')).cnt = m'.c) (h1 : ∀ a' c' v, v ∈ (vs a' c').v → v.oneCell' = true)
    (h : ∀ a' c', (bs ≠ [] → a'.isSome = true) → (∀ k, c' ≠ 0 → abk a' = some k → C.W.heap.size ≤ k ∧ ¬ hx.F k) → t.holds C (ρ.add (vs a' c')) pre (hx.and (frow a' c' bs)) L) : (Tree.call f args m r m' t).holds C ρ pre hx L := by
  intro ids w hp hf
  rw [hargs]
  refine (hcall ids w hp hf).mono ?_
  rintro e w' ⟨a', c', rfl, hX, hge, hbel⟩
  have hg : w.grownBy w' none := ⟨hbel.os, hbel.tape, hbel.output, hbel.size, fun k hk _ => hbel.block k hk⟩
  refine ⟨_, ids, _, by rw [← hr a' c' ids], List.prefix_refl _, hf.turn (hx' := hx.and (frow a' c' bs)) hg (fun b e => by cases e) ⟨hx.loc w w' hf.x fun k hk => hbel.block k (hf.sep k hk).1, hX⟩ (fun k hk => ?_) hhp hfit (hc _ _) (h1 _ _), holds_pre t hp (h a' c' (row_some hX) (fun k h2 h3 => ⟨Nat.le_trans hf.chg.size (hge k h2 h3), fun q => by have := (hf.sep _ q).1; have := hge k h2 h3; omega⟩))⟩
  rcases hk with hk | hk
  · exact .inl hk
  · refine .inr ⟨hge k hk.1 hk.2, ?_⟩
    obtain ⟨g, _, e, q, _⟩ := rw_open hX hk.1
    have h3 := hk.2
    rw [e] at h3; cases h3; exact q
end
end Go.Proofs.Ytadgaefmoobcoaa
