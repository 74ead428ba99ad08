/- Contracts of calls, and how they are met. No program in sight. -/
import Derived.Test.YtadgaefmoobcoaaEng16
import Derived.Test.YtadgaefmoobcoaaLibG
namespace Go.Eng
open Go.RowKit Go.Syn
set_option linter.unusedVariables false
set_option linter.unusedSimpArgs false
/-- What makes at most new memory. -/
def PureAt (w : World) (V : Value) (e : Ending) (w' : World) : Prop := e = .returned V ∧ Below w.heap.size w w'
/-- What changes one block. -/
def At1 (w : World) (b ty : Nat) (V : Value) (us : List Value) (e : Ending) (w' : World) : Prop := e = .returned V ∧ Blk w' b us ty ∧ w.grownBy w' (some b)
/-- What makes a block. -/
def NewB (w : World) (ty : Nat) (us : List Value) (e : Ending) (w' : World) : Prop := ∃ b, w.heap.size ≤ b ∧ e = .returned (.pointer (some ⟨b, 0, none⟩)) ∧ Blk w' b us ty ∧ Below w.heap.size w w'
section
variable {P : Program} {w : World} {V : Value} {v : SV} {m : Mem} {ρ : Env} {pre : List Nat} {hx : HX} {L : Stack}
theorem pure_done (hv : ∀ ids, v.den ρ ids = V) : (Tree.done v m).holds ⟨P, w, fun _ => False, PureAt w V⟩ ρ pre hx L := fun ids w' hp hf => ⟨by rw [hv ids], hf.chg.below⟩
theorem at1_done {b ty : Nat} {us : List Value} {cs : List LV} {r : List (Nat × List LV)} {n : Cnt} (hv : ∀ ids, v.den ρ ids = V) (hc : ∀ ids, cellsDen ρ ids cs = us) :
    (Tree.done v ⟨(ty, cs) :: r, n⟩).holds ⟨P, w, fun x => x = b, At1 w b ty V us⟩ ρ [b] hx L := fun ids w' hp hf => by
  refine ⟨by rw [hv ids], ?_, hf.chg.grown⟩
  have := hf.blkAt 0 rfl
  rw [idAt0 hp, hc ids] at this
  exact this
theorem new_done {ty k : Nat} {us : List Value} {cs : List LV} {hp0 : List (Nat × List LV)} {n : Cnt} (hk : hp0[k]? = some (ty, cs)) (hv : ∀ ids, v.den ρ ids = .pointer (some ⟨idAt ids k, 0, none⟩)) (hc : ∀ ids, cellsDen ρ ids cs = us) :
    (Tree.done v ⟨hp0, n⟩).holds ⟨P, w, fun _ => False, NewB w ty us⟩ ρ pre hx L := fun ids w' hp hf => by
  have hlt : k < hp0.length := by
    rcases Nat.lt_or_ge k hp0.length with q | q
    · exact q
    · rw [List.getElem?_eq_none q] at hk; cases hk
  refine ⟨idAt ids k, ?_, by rw [hv ids], ?_, hf.chg.below⟩
  · exact (hf.own _ (idAt_mem (by rw [hf.len]; exact hlt))).resolve_right (fun e => e)
  · have := hf.blkAt k hk
    rw [hc ids] at this
    exact this
end
section
variable {P : Program} {W : World} {M : Nat → Prop} {R : Ending → World → Prop} {ρ : Env} {pre : List Nat} {hx : HX} {L : Stack} {f : Nat} {args : List SV} {m m' : Mem} {r : SV} {t : Tree}
theorem node_val (vs : Vals) {as : Array Value} {V : Value} (hcall : ∀ w, Calls P f as w (PureAt w V)) (hargs : ∀ ids, (args.map (SV.den ρ ids)).toArray = as) (hr : ∀ ids, r.den (ρ.add vs) ids = V) (hhp : m'.hp = m.hp) (hfit : hpFits m.c m.hp.length m.hp = true) (hc : (ρ.add vs).cnt = m'.c) (h1 : ∀ v, v ∈ vs.v → v.oneCell' = true)
    (h : t.holds ⟨P, W, M, R⟩ (ρ.add vs) pre hx L) : (Tree.call f args m r m' t).holds ⟨P, W, M, R⟩ ρ pre hx L :=
  node_pure vs hhp hfit hc h1 (fun ids w hp hf => by rw [hargs, hr]; exact hcall w) h
theorem node_at1 (n ty : Nat) (vs : Vals) {us us' : List Value} {V : Value} {as : Nat → Array Value} {cs cs' : List LV} (hcall : ∀ w b, Blk w b us ty → Calls P f (as b) w (At1 w b ty V us')) (hargs : ∀ ids, (args.map (SV.den ρ ids)).toArray = as (idAt ids n)) (hn : m.hp[n]? = some (ty, cs)) (hcs : ∀ ids, cellsDen ρ ids cs = us)
    (hhp : m'.hp = m.hp.set n (ty, cs')) (hcs' : ∀ ids, cellsDen (ρ.add vs) ids cs' = us') (hr : ∀ ids, r.den (ρ.add vs) ids = V) (hfit : hpFits m.c m.hp.length m.hp = true) (hc : (ρ.add vs).cnt = m'.c) (h1 : ∀ v, v ∈ vs.v → v.oneCell' = true)
    (h : t.holds ⟨P, W, M, R⟩ (ρ.add vs) pre hx L) : (Tree.call f args m r m' t).holds ⟨P, W, M, R⟩ ρ pre hx L := by
  refine node_method n ty cs cs' vs hn hhp hfit hc h1 (fun ids w hp hf hb => ?_) h
  rw [hcs] at hb
  rw [hargs, hr, hcs']
  exact (hcall w _ hb).mono fun e w' h => ⟨h.1, h.2.1, h.2.2⟩
theorem node_newB (ty : Nat) (vs : Vals) {us' : List Value} {as : Array Value} {cs' : List LV} (hcall : ∀ w, Calls P f as w (NewB w ty us')) (hargs : ∀ ids, (args.map (SV.den ρ ids)).toArray = as) (hhp : m'.hp = m.hp ++ [(ty, cs')])
    (hcs' : ∀ ids, cellsDen (ρ.add vs) ids cs' = us') (hr : r = .lf (.ptr m.hp.length 0)) (hfit : hpFits m.c m.hp.length m.hp = true) (hc : (ρ.add vs).cnt = m'.c) (h1 : ∀ v, v ∈ vs.v → v.oneCell' = true)
    (h : t.holds ⟨P, W, M, R⟩ (ρ.add vs) pre hx L) : (Tree.call f args m r m' t).holds ⟨P, W, M, R⟩ ρ pre hx L := by
  refine node_new ty cs' vs hhp hfit hc h1 (fun ids w hp hf => ?_) h
  rw [hargs]
  refine (hcall w).mono ?_
  rintro e w' ⟨b, h1, rfl, h2, h3⟩
  refine ⟨b, h1, ?_, ?_, h3⟩
  · subst hr
    simp only [SV.den, LV.den, idAt_last _ _ hf.len]
  · rw [hcs']; exact h2
end
end Go.Eng
