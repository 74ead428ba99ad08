/- Part 14 of the texts of a proof about the given program: what the statement's proof needs of them. -/
import Derived.Lib.AppendZerosOnto
import Derived.Lib.Overlaps
import Derived.Test.YtadgaefmoobcoaaKMsgDecodes13
namespace Go.Eng
open Go.RowKit Go.Syn
set_option linter.unusedVariables false
section
variable {C : Cfg} {ρ : Env} {pre : List Nat} {rest hx : HX} {L : Stack} {m m' : Mem} {ty : Nat} {ps : List (Nat × SV)} {t : Tree}
end
section
variable {C : Cfg} {ρ : Env} {pre : List Nat} {hx : HX} {L : Stack} {m m' : Mem} {ty : Nat} {ps : List (Nat × SV)} {t : Tree} {r : Option SV}
end
theorem Chg.but {F : Nat → Prop} {b : Nat} {w w' : World} (h : Chg (fun k => k = b ∨ F k) w w') (e : w'.heap[b]? = w.heap[b]?) : Chg F w w' :=
  ⟨h.os, h.tape, h.output, h.size, fun k hk hF => by
    by_cases q : k = b
    · rw [q]; exact e
    · exact h.block k hk (fun z => z.elim q hF)⟩
section
variable {C : Cfg} {ρ : Env} {pre : List Nat} {rest hx : HX} {L : Stack} {m m' : Mem} {args : List SV} {r : SV} {t : Tree}
end
end Go.Eng

namespace Go.Eng
open Go.RowKit Go.Syn Go.MapKept
set_option linter.unusedVariables false
set_option linter.unusedSimpArgs false
section
variable {C : Cfg} {ρ : Env} {pre : List Nat} {hx rest : HX} {L : Stack} {m m' : Mem} {ty : Nat} {ps : List (Nat × SV)} {t : Tree}
end
end Go.Eng

namespace Go.Eng
open Go.RowKit Go.Syn Go.MapKept
set_option linter.unusedVariables false
set_option linter.unusedSimpArgs false
def HX.all (l : List HX) : HX := ⟨fun k => ∃ h ∈ l, h.F k, fun w => ∀ h ∈ l, h.X w, fun w w' hX e h hh => h.loc w w' (hX h hh) fun k hk => e k ⟨h, hh, hk⟩⟩
def HX.obj (F : Nat → Prop) (Q : HX → Prop) : HX := ⟨F, fun w => ∃ h, Q h ∧ h.X w ∧ ∀ k, h.F k → F k, fun w w' hX e => by
  obtain ⟨h, q, x, s⟩ := hX
  exact ⟨h, q, h.loc w w' x fun k hk => e k (s k hk), s⟩⟩
section
variable {C : Cfg} {L : Stack}
theorem Facts.sub {m : Mem} {ρ : Env} {ids : List Nat} {hx hx' : HX} {w : World} (hX : ∀ w, hx.X w → hx'.X w) (hF : ∀ k, hx'.F k → hx.F k) (hf : Facts C m ρ ids hx w) : Facts C m ρ ids hx' w :=
  ⟨hf.len, hf.nod, hf.blk, hf.own, hf.chg, hX w hf.x, fun b hb => hf.sep b (hF b hb), hf.cnt⟩
theorem holds_sub : ∀ (t : Tree) {ρ : Env} {pre : List Nat} {hx hx' : HX} {L : Stack}, (∀ w, hx.X w → hx'.X w) → (∀ k, hx'.F k → hx.F k) → t.holds C ρ pre hx' L → t.holds C ρ pre hx L
  | .done _ _, _, _, _, _, _, hX, hF, h => fun ids w hi hf => h ids w hi (hf.sub hX hF)
  | .fail _ _, _, _, _, _, _, _, _, h => h
  | .br _ t f, _, _, _, _, _, hX, hF, h => ⟨fun hb => holds_sub t hX hF (h.1 hb), fun hb => holds_sub f hX hF (h.2 hb)⟩
  | .need _ t, _, _, _, _, _, hX, hF, h => ⟨h.1, fun hb => holds_sub t hX hF (h.2 hb)⟩
  | .call .., _, _, _, _, _, hX, hF, h => fun ids w hi hf => h ids w hi (hf.sub hX hF)
  | .gen .., _, _, _, _, _, hX, hF, h => fun ids w hi hf => h ids w hi (hf.sub hX hF)
  | .ld true _ _ _ _ t, _, _, _, _, _, hX, hF, h => fun ids w hi hf => by
    obtain ⟨vs, h1, h2, h3⟩ := h ids w hi (hf.sub hX hF)
    exact ⟨vs, h1, h2, holds_sub t hX hF h3⟩
  | .ld false _ _ _ _ t, _, _, _, _, _, hX, hF, h => by
    obtain ⟨vs, h1, h2, h3⟩ := h
    exact ⟨vs, h1, h2, holds_sub t hX hF h3⟩
  | .ldq _ _ _ _ t, _, _, _, _, _, hX, hF, h => fun ids w hi hf => by
    obtain ⟨vs, ⟨ad, e1, e2, e3⟩, h2, h3⟩ := h ids w hi (hf.sub hX hF)
    exact ⟨vs, ⟨ad, e1, fun q => e2 fun r => q (hF _ r), e3⟩, h2, holds_sub t hX hF h3⟩
  | .loop _ _ _ _ t, _, _, _, _, _, hX, hF, h => by
    obtain ⟨I, h1, h2⟩ := h
    exact ⟨I, fun ids w hi hf => h1 ids w hi (hf.sub hX hF), h2⟩
  | .again .., _, _, _, _, _, hX, hF, h => fun ids w hi hf => h ids w hi (hf.sub hX hF)
  | .join _ _ _ a b, _, _, _, _, _, hX, hF, h => by
    obtain ⟨I, h1, h2⟩ := h
    exact ⟨I, holds_sub a hX hF h1, h2⟩
  | .par a b, _, _, _, _, _, hX, hF, h => ⟨holds_sub a hX hF h.1, holds_sub b hX hF h.2⟩
end
section
variable {C : Cfg} {ρ : Env} {pre : List Nat} {hx rest h0 : HX} {L : Stack} {m m' : Mem} {args : List SV} {r : SV} {t : Tree} {ids : List Nat} {w w' : World} {vs : Vals}
end
def kv (e : MapEntry) : Value × Value := (e.key, e.val)
def keyI (e : MapEntry) : Int := match e.key with | .int _ n => n | _ => 0
theorem keyI_map {es : List MapEntry} {m : List (Int × Value)} (h : es.map kv = m.map vent) : es.map keyI = m.map (·.1) := by
  have h1 : es.map keyI = (es.map kv).map fun p => match p.1 with | .int _ n => n | _ => 0 := by rw [List.map_map]; rfl
  rw [h1, h, List.map_map]; rfl
structure Rg (w : World) (i b : Nat) (m left : List (Int × Value)) (last : Option (Int × Value)) : Prop where
  ex : ∃ es clock seen since c0, w.heap[b]? = some (.map es clock) ∧ Stamped es clock ∧ es.toList.map kv = m.map vent ∧ w.heap[i]? = some (.mapIter (some b) since seen c0) ∧ (∀ x ∈ es.toList, x.born < since) ∧ since ≤ c0 ∧ since ≤ clock ∧
    (es.toList.filter fun e => !seen.contains e.born).map kv = left.map vent ∧ ∀ p, last = some p → c0 = clock ∧ ∃ (s0 : Array Nat) (e : MapEntry), e ∈ es.toList ∧ seen = s0.push e.born ∧ kv e = vent p
theorem Rg.map {w : World} {i b : Nat} {m left : List (Int × Value)} {last : Option (Int × Value)} (h : Rg w i b m left last) : VMap w b m := by
  obtain ⟨es, clock, seen, since, c0, h1, h2, h3, _⟩ := h
  exact ⟨es, clock, h1, h2, h3⟩
theorem Rg.nodup {w : World} {i b : Nat} {m left : List (Int × Value)} {last : Option (Int × Value)} (h : Rg w i b m left last) : (left.map (·.1)).Nodup ∧ ∀ p ∈ left, p ∈ m := by
  obtain ⟨es, clock, seen, since, c0, h1, h2, h3, h4, h5, h6, h7, h8, _⟩ := h
  have hv := vnodup_of h2 h3
  have e1 := keyI_map h3
  have e2 := keyI_map h8
  refine ⟨?_, fun p hp => ?_⟩
  · rw [← e2]
    rw [← e1] at hv
    exact (List.Sublist.map _ List.filter_sublist).nodup hv
  · have : vent p ∈ left.map vent := List.mem_map.2 ⟨p, hp, rfl⟩
    rw [← h8] at this
    obtain ⟨e, he, e3⟩ := List.mem_map.1 this
    have he2 : e ∈ es.toList := (List.mem_filter.1 he).1
    have : kv e ∈ m.map vent := by rw [← h3]; exact List.mem_map.2 ⟨e, he2, rfl⟩
    obtain ⟨q, hq, e4⟩ := List.mem_map.1 this
    rw [← vent_inj (e4.trans e3)]; exact hq
section
variable {C : Cfg} {ρ : Env} {pre : List Nat} {hx rest : HX} {L : Stack} {m m' : Mem} {ty : Nat} {ps : List (Nat × SV)} {t : Tree}
end
end Go.Eng

namespace Go.Eng
open Go.RowKit Go.Syn Go.MapKept
set_option linter.unusedVariables false
set_option linter.unusedSimpArgs false
section
variable {α β : Type}
def mlk (m : List (Int × α)) (k : Int) : Option α := (m.find? (fun p => p.1 == k)).map (·.2)
def mput (m : List (Int × α)) (k : Int) (v : α) : List (Int × α) := if (mlk m k).isSome then m.map (fun p => if p.1 = k then (k, v) else p) else m ++ [(k, v)]
def NdK (m : List (Int × α)) : Prop := (m.map (·.1)).Nodup
theorem mlk_nil (k : Int) : mlk ([] : List (Int × α)) k = none := rfl
theorem mlk_cons (p : Int × α) (m : List (Int × α)) (k : Int) : mlk (p :: m) k = if p.1 = k then some p.2 else mlk m k := by
  unfold mlk
  rw [List.find?_cons]
  by_cases h : p.1 = k
  · simp [h]
  · rw [if_neg h, show (p.1 == k) = false by simpa using h]
theorem mlk_none_iff {m : List (Int × α)} {k : Int} : mlk m k = none ↔ ∀ p ∈ m, p.1 ≠ k := by
  induction m with
  | nil => simp [mlk_nil]
  | cons p m ih =>
    rw [mlk_cons]
    by_cases h : p.1 = k
    · simp [h]
    · simp [h, ih]
theorem NdK.filter {m : List (Int × α)} (h : NdK m) (f : Int × α → Bool) : NdK (m.filter f) := (List.Sublist.map _ List.filter_sublist).nodup h
theorem NdK.put {m : List (Int × α)} (h : NdK m) (k : Int) (v : α) : NdK (mput m k v) := by
  unfold mput
  split
  · have : (m.map fun p => if p.1 = k then (k, v) else p).map (·.1) = m.map (·.1) := by
      rw [List.map_map]
      refine List.map_congr_left fun p _ => ?_
      simp only [Function.comp]
      by_cases e : p.1 = k
      · simp [e]
      · simp [e]
    unfold NdK; rw [this]; exact h
  · rename_i hn
    have hn : mlk m k = none := by simpa using hn
    unfold NdK
    rw [List.map_append]
    refine List.nodup_append.2 ⟨h, by simp, ?_⟩
    intro a ha b hb
    simp only [List.map_cons, List.map_nil, List.mem_singleton] at hb
    subst hb
    obtain ⟨p, hp, rfl⟩ := List.mem_map.1 ha
    exact mlk_none_iff.1 hn p hp
end
end Go.Eng

namespace Go.Eng
open Go.RowKit Go.Syn Go.MapKept
set_option linter.unusedVariables false
set_option linter.unusedSimpArgs false
section
variable {C : Cfg} {ρ : Env} {pre : List Nat} {hx rest : HX} {L : Stack} {m m' : Mem} {ty : Nat} {ps : List (Nat × SV)} {t : Tree}
end
end Go.Eng

namespace Go.Eng
open Go.RowKit Go.Syn Go.MapKept
set_option linter.unusedVariables false
set_option linter.unusedSimpArgs false
structure Tw (w : World) (sz e : Nat) (a : Option Addr) (n cap : Nat) (xs : List Value) : Prop where
  len : xs.length = n * sz
  le : n ≤ cap
  ex : cap ≠ 0 → ∃ (g off : Nat) (cur : List Value), a = some ⟨g, off * sz, none⟩ ∧ w.heap[g]? = some (.cells cur.toArray e (0, 0)) ∧ cap ≤ maxLen ∧ cur.length = (off + cap) * sz ∧ (cur.drop (off * sz)).take (n * sz) = xs
section
variable {P : Program}
end
section
variable {C : Cfg} {ρ : Env} {pre : List Nat} {hx hx' rest : HX} {L : Stack} {m m' : Mem} {ty : Nat} {ps : List (Nat × SV)} {t : Tree} {ids : List Nat} {w w' : World} {args : List SV} {r : SV}
end
end Go.Eng
namespace Go.Eng
open Go.RowKit Go.Syn Go.MapKept
set_option linter.unusedVariables false
set_option linter.unusedSimpArgs false
def Dj (xs : List HX) : Prop := ∀ (i j : Nat) (a b : HX), xs[i]? = some a → xs[j]? = some b → i ≠ j → ∀ k, a.F k → ¬ b.F k
theorem Dj.set {xs : List HX} (h : Dj xs) {i : Nat} {a a' : HX} (hi : xs[i]? = some a) (hF : ∀ k, a'.F k → a.F k ∨ ∀ b ∈ xs, ¬ b.F k) : Dj (xs.set i a') := by
  have key : ∀ (j : Nat) (b : HX), xs[j]? = some b → i ≠ j → ∀ k, a'.F k → ¬ b.F k := fun j b hj hij k hk hb => by
    rcases hF k hk with q | q
    · exact h i j a b hi hj hij k q hb
    · exact q b (List.mem_of_getElem? hj) hb
  intro p q x y hx hy hpq k hk hk2
  rw [List.getElem?_set] at hx hy
  split at hx
  · rename_i e
    subst e
    rw [if_neg hpq] at hy
    split at hx
    · cases hx
      exact key q y hy hpq k hk hk2
    · cases hx
  · rename_i e
    split at hy
    · rename_i e2
      subst e2
      split at hy
      · cases hy
        exact key p x hx e k hk2 hk
      · cases hy
    · exact h p q x y hx hy hpq k hk hk2
section
variable {C : Cfg} {ρ : Env} {pre : List Nat} {hx hx' rest h0 : HX} {L : Stack} {m m' : Mem} {ty : Nat} {ps : List (Nat × SV)} {t : Tree} {ids : List Nat} {w w' : World} {args : List SV} {r : SV} {f : Nat}
end
end Go.Eng
