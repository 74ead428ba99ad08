/- Part 11 of the texts of a proof about the given program: what the statement's proof needs of them. -/
import Derived.Maps.RangeRun
import Derived.MapKept
import Derived.Test.YtbedoemdjlollaaKJudgeMerges10
namespace Go.Eng
open Go.RowKit Go.Syn Go.MapKept
set_option linter.unusedVariables false
set_option linter.unusedSimpArgs false
def lk (m : List (Int × Int)) (k : Int) : Option Int := (m.find? (fun p => p.1 == k)).map (·.2)
def putm (m : List (Int × Int)) (k v : Int) : List (Int × Int) := if (lk m k).isSome then m.map (fun p => if p.1 = k then (k, v) else p) else m ++ [(k, v)]
theorem lk_none {m : List (Int × Int)} {k : Int} (h : ∀ p ∈ m, p.1 ≠ k) : lk m k = none := by
  unfold lk
  rw [List.find?_eq_none.2 (fun p hp => by simpa using h p hp)]; rfl
theorem lk_mem {k v : Int} : ∀ {m : List (Int × Int)}, (m.map (·.1)).Nodup → (k, v) ∈ m → lk m k = some v
  | p :: m, hn, h => by
    simp only [List.map_cons, List.nodup_cons] at hn
    rcases List.mem_cons.1 h with rfl | h
    · simp [lk]
    · have : p.1 ≠ k := fun e => hn.1 (List.mem_map.2 ⟨(k, v), h, e.symm⟩)
      have ih := lk_mem hn.2 h
      unfold lk at ih ⊢
      rw [List.find?_cons_of_neg (by simpa using this)]; exact ih
def ent (p : Int × Int) : Value × Value := (.int .i64 p.1, .int .i64 p.2)
structure IMap (w : World) (b : Nat) (m : List (Int × Int)) : Prop where
  ex : ∃ es clock, w.heap[b]? = some (.map es clock) ∧ Stamped es clock ∧ es.toList.map (fun e => (e.key, e.val)) = m.map ent
theorem IMap.loc {w w' : World} {b : Nat} {m : List (Int × Int)} (h : IMap w b m) (e : w'.heap[b]? = w.heap[b]?) : IMap w' b m := by
  obtain ⟨es, clock, h1, h2, h3⟩ := h
  exact ⟨es, clock, by rw [e]; exact h1, h2, h3⟩
theorem IMap.lt {w : World} {b : Nat} {m : List (Int × Int)} (h : IMap w b m) : b < w.heap.size := by
  obtain ⟨es, clock, h1, _⟩ := h
  rcases Nat.lt_or_ge b w.heap.size with q | q
  · exact q
  · rw [Array.getElem?_eq_none q] at h1; cases h1
theorem keys_eq {es : Array MapEntry} {m : List (Int × Int)} (h3 : es.toList.map (fun e => (e.key, e.val)) = m.map ent) : es.toList.map (·.key) = m.map (fun p => Value.int .i64 p.1) := by
  have := congrArg (List.map Prod.fst) h3
  simpa [List.map_map, Function.comp_def, ent] using this
theorem nodup_of {es : Array MapEntry} {clock : Nat} {m : List (Int × Int)} (h2 : Stamped es clock) (h3 : es.toList.map (fun e => (e.key, e.val)) = m.map ent) : (m.map (·.1)).Nodup := by
  have h := h2.2.2
  rw [keys_eq h3] at h
  have e : m.map (fun p => Value.int .i64 p.1) = (m.map (·.1)).map (Value.int .i64) := by simp [List.map_map, Function.comp_def]
  rw [e] at h
  exact List.Pairwise.of_map (S := fun a b => a ≠ b) (R := fun a b => a ≠ b) (Value.int .i64) (fun a b hne e => hne (by rw [e])) h
theorem IMap.nodup {w : World} {b : Nat} {m : List (Int × Int)} (h : IMap w b m) : (m.map (·.1)).Nodup := by
  obtain ⟨es, clock, _, h2, h3⟩ := h
  exact nodup_of h2 h3
theorem entry_at {es : Array MapEntry} {m : List (Int × Int)} (h3 : es.toList.map (fun e => (e.key, e.val)) = m.map ent) {j : Nat} {e : MapEntry} (hj : es.toList[j]? = some e) : ∃ p, m[j]? = some p ∧ e.key = .int .i64 p.1 ∧ e.val = .int .i64 p.2 := by
  have h := congrArg (·[j]?) h3
  simp only [List.getElem?_map, hj, Option.map_some] at h
  cases hm : m[j]? with
  | none => rw [hm] at h; cases h
  | some p =>
    rw [hm] at h
    simp only [Option.map_some, Option.some.injEq, ent, Prod.mk.injEq] at h
    exact ⟨p, rfl, h.1, h.2⟩
section
variable {P : Program} {w : World} {b : Nat} {m : List (Int × Int)} {t kt et : TypeId}
theorem IMap.find (h : IMap w b m) (k : Int) : ∃ es clock, w.heap[b]? = some (.map es clock) ∧ Stamped es clock ∧ es.toList.map (fun e => (e.key, e.val)) = m.map ent ∧
    ((Instr.findNow (.int .i64) (.int .i64 k) es.toList 0 = some none ∧ lk m k = none ∧ ∀ x ∈ es.toList, x.key ≠ .int .i64 k) ∨
     ∃ j e v, Instr.findNow (.int .i64) (.int .i64 k) es.toList 0 = some (some (j, e.val)) ∧ es.toList[j]? = some e ∧ e.key = .int .i64 k ∧ e.val = .int .i64 v ∧ m[j]? = some (k, v) ∧ lk m k = some v) := by
  obtain ⟨es, clock, h1, h2, h3⟩ := h
  refine ⟨es, clock, h1, h2, h3, ?_⟩
  have hks : ∀ x ∈ es.toList, IsKey (.int .i64) x.key := fun x hx => by
    have : x.key ∈ es.toList.map (·.key) := List.mem_map.2 ⟨x, hx, rfl⟩
    rw [keys_eq h3] at this
    obtain ⟨p, _, e⟩ := List.mem_map.1 this
    rw [← e]; exact rfl
  rcases findNow_spec (d := .int .i64) (k := .int .i64 k) rfl es.toList 0 hks with ⟨f1, f2⟩ | ⟨j, e0, f1, f2, f3⟩
  · refine .inl ⟨f1, lk_none (fun p hp e => ?_), f2⟩
    have : Value.int .i64 p.1 ∈ es.toList.map (·.key) := by rw [keys_eq h3]; exact List.mem_map.2 ⟨p, hp, rfl⟩
    obtain ⟨x, hx, e2⟩ := List.mem_map.1 this
    exact f2 x hx (by rw [e2, e])
  · obtain ⟨p, p1, p2, p3⟩ := entry_at h3 f2
    have : p.1 = k := by rw [f3] at p2; exact (Value.int.inj p2).2.symm
    refine .inr ⟨j, e0, p.2, by simpa using f1, f2, f3, p3, by rw [p1, ← this], ?_⟩
    refine lk_mem (nodup_of h2 h3) ?_
    rw [← this]; exact List.mem_of_getElem? p1
theorem IMap.lookup (h : IMap w b m) (k : Int) (ht : P.underlying t = some (.map kt et)) (hk : P.underlying kt = some (.int .i64)) (hz : (zeroValue et).run P w = .ok (.int .i64 0) w) :
    (Instr.lookup t (.map (some b)) (.int .i64 k) true).run P w = .ok (.tuple #[.int .i64 ((lk m k).getD 0), .bool (lk m k).isSome]) w := by
  obtain ⟨es, clock, h1, h2, h3, f | f⟩ := h.find k
  · obtain ⟨f1, f2, _⟩ := f
    have q := run_findKey (P := P) (w := w) hk f1
    simp [Instr.lookup, run_underlying ht, MapKept.run_getObj_map h1, run_checkKey (P := P) (w := w) (k := .int .i64 k) hk rfl _ 9999, q, hz, Result.andThen, f2]
  · obtain ⟨j, e, v, f1, _, _, f4, _, f5⟩ := f
    have q := run_findKey (P := P) (w := w) hk f1
    simp [Instr.lookup, run_underlying ht, MapKept.run_getObj_map h1, run_checkKey (P := P) (w := w) (k := .int .i64 k) hk rfl _ 9999, q, Result.andThen, f4, f5]
theorem putm_mod {j : Nat} {k v v0 : Int} (hn : (m.map (·.1)).Nodup) (hj : m[j]? = some (k, v0)) : putm m k v = m.modify j (fun _ => (k, v)) := by
  have h0 : lk m k = some v0 := lk_mem hn (List.mem_of_getElem? hj)
  unfold putm
  rw [h0, if_pos (show (some v0).isSome = true from rfl)]
  apply List.ext_getElem?
  intro i
  rw [List.getElem?_map, List.getElem?_modify]
  cases hi : m[i]? with
  | none => simp
  | some p =>
    simp only [Option.map_some]
    by_cases hij : j = i
    · subst hij; rw [hj] at hi; cases hi; simp
    · have hne : p.1 ≠ k := fun e => hij (by
        have a1 : (m.map (·.1))[i]? = some k := by rw [List.getElem?_map, hi]; simp [e]
        have a2 : (m.map (·.1))[j]? = some k := by rw [List.getElem?_map, hj]; simp
        have hl : j < (m.map (·.1)).length := by
          rcases Nat.lt_or_ge j (m.map (·.1)).length with q | q
          · exact q
          · rw [List.getElem?_eq_none q] at a2; cases a2
        exact (List.getElem?_inj hl hn).1 (a2.trans a1.symm))
      simp [hij, hne]
theorem grown_obj {w : World} {b : Nat} {o o' : Obj} (hb : w.heap[b]? = some o) : w.grownBy { w with heap := w.heap.setIfInBounds b o' } (some b) := by
  refine ⟨rfl, rfl, rfl, by simp, fun k hk hne => ?_⟩
  rw [Array.getElem?_setIfInBounds]
  have : b ≠ k := fun e => hne (by rw [e])
  simp [this]
theorem IMap.update (h : IMap w b m) (k v : Int) (ht : P.underlying t = some (.map kt et)) (hk : P.underlying kt = some (.int .i64)) :
    ∃ w', (Instr.mapUpdate t (.map (some b)) (.int .i64 k) (.int .i64 v)).run P w = .ok () w' ∧ IMap w' b (putm m k v) ∧ w.grownBy w' (some b) := by
  have hlt := h.lt
  obtain ⟨es, clock, h1, h2, h3, f | f⟩ := h.find k
  · obtain ⟨f1, f2, f3⟩ := f
    have q := run_findKey (P := P) (w := w) hk f1
    refine ⟨{ w with heap := w.heap.setIfInBounds b (.map (es.push ⟨.int .i64 k, .int .i64 v, clock⟩) (clock + 1)) }, ?_, ⟨es.push ⟨.int .i64 k, .int .i64 v, clock⟩, clock + 1, ?_, stamped_push h2 f3, ?_⟩, grown_obj h1⟩
    · simp [Instr.mapUpdate, run_underlying ht, MapKept.run_getObj_map h1, run_checkKey (P := P) (w := w) (k := .int .i64 k) hk rfl _ 9999, q, Result.andThen, run_setObj_map _ h1]
    · simp [hlt]
    · simp [putm, f2, h3, ent]
  · obtain ⟨j, e, v0, f1, f2, f3, f4, f5, f6⟩ := f
    have q := run_findKey (P := P) (w := w) hk f1
    have hej : es[j]? = some e := by rw [← Array.getElem?_toList]; exact f2
    refine ⟨{ w with heap := w.heap.setIfInBounds b (.map (es.modify j fun e => { e with key := .int .i64 k, val := .int .i64 v }) clock) }, ?_, ⟨es.modify j (fun e => { e with key := .int .i64 k, val := .int .i64 v }), clock, ?_, stamped_modify h2 _ _ (fun _ _ => rfl) (fun x hx h4 => ?_), ?_⟩, grown_obj h1⟩
    · simp [Instr.mapUpdate, run_underlying ht, MapKept.run_getObj_map h1, run_checkKey (P := P) (w := w) (k := .int .i64 k) hk rfl _ 9999, q, Result.andThen, run_setObj_map _ h1, hej, f3, run_keyThatStays (P := P) (w := w) (d := .int .i64) (k := .int .i64 k) rfl]
    · simp [hlt]
    · rw [hej] at h4; cases h4; exact f3.symm
    · rw [putm_mod (nodup_of h2 h3) f5]
      apply List.ext_getElem?
      intro i
      have h4 := congrArg (·[i]?) h3
      simp only [List.getElem?_map, Array.getElem?_toList] at h4
      simp only [List.getElem?_map, Array.getElem?_toList, Array.getElem?_modify, List.getElem?_modify]
      by_cases hij : j = i
      · subst hij
        rw [hej, f5]
        simp [ent]
      · simpa [hij] using h4
theorem IMap.clear (h : IMap w b m) (ty : TypeId) (ht : P.underlying t = some (.map kt et)) :
    ∃ w', (Builtin.clear_ #[t] ty #[.map (some b)]).run P w = .ok (.tuple #[]) w' ∧ IMap w' b [] ∧ w.grownBy w' (some b) := by
  have hlt := h.lt
  obtain ⟨es, clock, h1, h2, h3⟩ := h
  refine ⟨{ w with heap := w.heap.setIfInBounds b (.map #[] clock) }, ?_, ⟨#[], clock, by simp [hlt], stamped_empty clock, rfl⟩, grown_obj h1⟩
  simp [Builtin.clear_, run_underlying ht, MapKept.run_getObj_map h1, run_setObj_map _ h1, Result.andThen]
theorem IMap.new (w : World) : IMap (w.alloc (.map #[] 0)) w.heap.size [] := ⟨#[], 0, heap_alloc_new _ _, stamped_empty 0, rfl⟩
end
end Go.Eng

namespace Go.Eng
open Go.RowKit Go.Syn
set_option linter.unusedVariables false
set_option linter.unusedSimpArgs false
def HX.and (a b : HX) : HX := ⟨fun k => a.F k ∨ b.F k, fun w => a.X w ∧ b.X w, fun w w' h e => ⟨a.loc w w' h.1 fun k hk => e k (.inl hk), b.loc w w' h.2 fun k hk => e k (.inr hk)⟩⟩
theorem Ints.loc {w w' : World} {a : Option Addr} {xs : List Int} (h : Ints w a xs) (e : xs ≠ [] → w'.heap[blk a]? = w.heap[blk a]?) : Ints w' a xs := by
  refine ⟨h.len, h.fits, fun h0 => ?_⟩
  obtain ⟨ha, hb, hc⟩ := h.at_ h0
  have e2 := e (fun q => by rw [q] at h0; simp at h0)
  refine ⟨ha, ?_, fun i hi => by rw [World.cell?_of_block (w := w) e2]; exact hc i hi⟩
  rcases Nat.lt_or_ge (blk a) w'.heap.size with q | q
  · exact q
  · rw [Array.getElem?_eq_none q, Array.getElem?_eq_getElem hb] at e2; cases e2
def HX.blk (b : Nat) (o : Obj) : HX := ⟨fun k => k = b, fun w => w.heap[b]? = some o, fun w w' h e => by rw [e b rfl]; exact h⟩
def HX.own (base e : Nat) (a : Option Addr) (n cap : Nat) (xs : List Value) : HX :=
  ⟨fun k => a.map (·.block) = some k, fun w => w.ownsRow base e 1 (.slice a n cap) n xs, fun w w' h eq => by
    refine ⟨h.1, ?_⟩
    rcases h.2 with q | ⟨g, c, cur, hv, hb, hg, rest⟩
    · exact .inl q
    · refine .inr ⟨g, c, cur, hv, hb, ?_, rest⟩
      cases hv
      rw [eq g rfl]; exact hg⟩
section
variable {C : Cfg} {ρ : Env} {pre : List Nat} {hx hx' : HX} {L : Stack} {m m' : Mem} {ids : List Nat} {w w' : World} {vs : Vals}
theorem envUp' {c' : Cnt} (hf : Facts C m ρ ids hx w) (hc : (ρ.add vs).cnt = c') (h1 : ∀ v, v ∈ vs.v → v.oneCell' = true) : EnvOk (ρ.add vs) c' := by
  refine ⟨hc, fun v hv => ?_⟩
  simp only [Env.add, List.mem_append] at hv
  rcases hv with hv | hv
  · exact hf.cnt.one v hv
  · exact h1 v hv
theorem Facts.turn {row : Option Nat} (hf : Facts C m ρ ids hx w) (hg : w.grownBy w' row) (hrow : ∀ b, row = some b → hx.F b ∧ (C.W.heap.size ≤ b ∨ C.M b)) (hX : hx'.X w') (hF : ∀ b, hx'.F b → hx.F b ∨ (w.heap.size ≤ b ∧ b < w'.heap.size))
    (hhp : m'.hp = m.hp) (hfit : hpFits m.c m.hp.length m.hp = true) (hc : (ρ.add vs).cnt = m'.c) (h1 : ∀ v, v ∈ vs.v → v.oneCell' = true) : Facts C m' (ρ.add vs) ids hx' w' := by
  refine ⟨by rw [hf.len, hhp], hf.nod, fun k t2 cs2 hk => ?_, hf.own, ?_, hX, ?_, envUp' hf hc h1⟩
  · rw [hhp] at hk
    have hk2 : k < m.hp.length := by
      rcases Nat.lt_or_ge k m.hp.length with q | q
      · exact q
      · rw [List.getElem?_eq_none q] at hk; cases hk
    have hmem := idAt_mem (ids := ids) (n := k) (hf.len ▸ hk2)
    rw [hg.block _ (hf.id_lt hmem) (fun e2 => (hf.sep _ (hrow _ e2.symm).1).2 hmem)]
    rw [hf.blk k t2 cs2 hk, cellsDen_add hf.cnt.cnt (List.prefix_refl _) hf.len (List.all_eq_true.1 hfit _ (List.mem_of_getElem? hk))]
  · refine ⟨hg.os.trans hf.chg.os, hg.tape.trans hf.chg.tape, hg.output.trans hf.chg.output, Nat.le_trans hf.chg.size hg.size, fun k hk hM => ?_⟩
    rw [hg.block k (Nat.lt_of_lt_of_le hk hf.chg.size) (fun e => ?_)]
    · exact hf.chg.block k hk hM
    · rcases (hrow _ e.symm).2 with g | g
      · omega
      · exact hM g
  · intro b hb
    rcases hF b hb with h | ⟨h2, h3⟩
    · exact ⟨Nat.lt_of_lt_of_le (hf.sep b h).1 hg.size, (hf.sep b h).2⟩
    · exact ⟨h3, fun hm => by have := hf.id_lt hm; omega⟩
theorem grown_none (w : World) : w.grownBy w none := World.grownBy.refl _ _
variable {ty : Nat} {ps : List (Nat × SV)} {t : Tree}
end
end Go.Eng

namespace Go.Eng
open Go.RowKit Go.Syn Go.MapKept
set_option linter.unusedVariables false
set_option linter.unusedSimpArgs false
section
variable {C : Cfg} {ρ : Env} {pre : List Nat} {hx rest : HX} {L : Stack} {m m' : Mem} {ty : Nat} {ps : List (Nat × SV)} {t : Tree}
def abk (a : Option Addr) : Option Nat := a.map (·.block)
end
end Go.Eng

namespace Go.Eng
open Go.RowKit Go.Syn Go.MapKept
set_option linter.unusedVariables false
set_option linter.unusedSimpArgs false
theorem HX.ext {a b : HX} (hF : a.F = b.F) (hX : a.X = b.X) : a = b := by
  obtain ⟨F, X, l⟩ := a; obtain ⟨G, Y, l2⟩ := b
  cases hF; cases hX; rfl
theorem HX.and_comm (a b : HX) : a.and b = b.and a := HX.ext (by funext k; exact propext Or.comm) (by funext w; exact propext And.comm)
theorem HX.and_assoc (a b c : HX) : (a.and b).and c = a.and (b.and c) := HX.ext (by funext k; exact propext or_assoc) (by funext w; exact propext _root_.and_assoc)
theorem HX.and_right_comm (a b c : HX) : (a.and b).and c = (a.and c).and b := by rw [HX.and_assoc, HX.and_comm b c, ← HX.and_assoc]
theorem Facts.initx {P : Program} {w : World} {M : Nat → Prop} {R : Ending → World → Prop} {ρ : Env} {c : Cnt} {hx : HX} {b ty : Nat} {cs : List LV} {us : List Value} (hc : ρ.cnt = c) (h1 : ∀ v, v ∈ ρ.v → v.oneCell' = true) (h : Blk w b us ty) (he : cellsDen ρ [b] cs = us)
    (hM : M b) (hX : hx.X w) (hsep : ∀ k, hx.F k → k < w.heap.size ∧ k ≠ b) : Facts ⟨P, w, M, R⟩ ⟨[(ty, cs)], c⟩ ρ [b] hx w := by
  refine ⟨rfl, by simp, fun n t2 cs2 hn => ?_, fun id hid => ?_, Chg.refl _ _, hX, fun k hk => ⟨(hsep k hk).1, by simpa using (hsep k hk).2⟩, ⟨hc, h1⟩⟩
  · cases n with
    | zero =>
      simp only [List.getElem?_cons_zero, Option.some.injEq, Prod.mk.injEq] at hn
      obtain ⟨rfl, rfl⟩ := hn
      rw [he]; exact h
    | succ n => simp at hn
  · simp only [List.mem_singleton] at hid; subst hid; exact .inr hM
theorem Facts.initq {P : Program} {w : World} {R : Ending → World → Prop} {ρ : Env} {c : Cnt} {hx : HX} (hc : ρ.cnt = c) (h1 : ∀ v, v ∈ ρ.v → v.oneCell' = true) (hX : hx.X w) (hsep : ∀ k, hx.F k → k < w.heap.size) : Facts ⟨P, w, fun _ => False, R⟩ ⟨[], c⟩ ρ [] hx w :=
  ⟨rfl, by simp, (fun n t2 cs2 hn => by simp at hn), (fun id hid => by cases hid), Chg.refl _ _, hX, (fun k hk => ⟨hsep k hk, by simp⟩), ⟨hc, h1⟩⟩
theorem Chg.same {b : Nat} {W w : World} (h : Chg (fun x => x = b) W w) (e : w.heap[b]? = W.heap[b]?) : Chg (fun _ => False) W w := ⟨h.os, h.tape, h.output, h.size, fun k hk _ => by
  by_cases q : k = b
  · subst q; exact e
  · exact h.block k hk q⟩
section
variable {C : Cfg} {ρ : Env} {pre : List Nat} {hx : HX} {L : Stack} {m m' : Mem} {ty : Nat} {ps : List (Nat × SV)} {t : Tree}
end
end Go.Eng

namespace Go.Eng
open Go.RowKit Go.Syn Go.MapKept
set_option linter.unusedVariables false
set_option linter.unusedSimpArgs false
def vlk (m : List (Int × Value)) (k : Int) : Option Value := (m.find? (fun p => p.1 == k)).map (·.2)
def vput (m : List (Int × Value)) (k : Int) (v : Value) : List (Int × Value) := if (vlk m k).isSome then m.map (fun p => if p.1 = k then (k, v) else p) else m ++ [(k, v)]
theorem vlk_none {m : List (Int × Value)} {k : Int} (h : ∀ p ∈ m, p.1 ≠ k) : vlk m k = none := by
  unfold vlk
  rw [List.find?_eq_none.2 (fun p hp => by simpa using h p hp)]; rfl
theorem vlk_mem {k : Int} {v : Value} : ∀ {m : List (Int × Value)}, (m.map (·.1)).Nodup → (k, v) ∈ m → vlk m k = some v
  | p :: m, hn, h => by
    simp only [List.map_cons, List.nodup_cons] at hn
    rcases List.mem_cons.1 h with rfl | h
    · simp [vlk]
    · have : p.1 ≠ k := fun e => hn.1 (List.mem_map.2 ⟨(k, v), h, e.symm⟩)
      have ih := vlk_mem hn.2 h
      unfold vlk at ih ⊢
      rw [List.find?_cons_of_neg (by simpa using this)]; exact ih
def vent (p : Int × Value) : Value × Value := (.int .i64 p.1, p.2)
structure VMap (w : World) (b : Nat) (m : List (Int × Value)) : Prop where
  ex : ∃ es clock, w.heap[b]? = some (.map es clock) ∧ Stamped es clock ∧ es.toList.map (fun e => (e.key, e.val)) = m.map vent
theorem VMap.loc {w w' : World} {b : Nat} {m : List (Int × Value)} (h : VMap w b m) (e : w'.heap[b]? = w.heap[b]?) : VMap w' b m := by
  obtain ⟨es, clock, h1, h2, h3⟩ := h
  exact ⟨es, clock, by rw [e]; exact h1, h2, h3⟩
theorem VMap.lt {w : World} {b : Nat} {m : List (Int × Value)} (h : VMap w b m) : b < w.heap.size := by
  obtain ⟨es, clock, h1, _⟩ := h
  rcases Nat.lt_or_ge b w.heap.size with q | q
  · exact q
  · rw [Array.getElem?_eq_none q] at h1; cases h1
theorem vent_inj {p q : Int × Value} (h : vent p = vent q) : p = q := by
  simp only [vent, Prod.mk.injEq, Value.int.injEq, true_and] at h
  exact Prod.ext h.1 h.2
theorem vkeys_eq {es : Array MapEntry} {m : List (Int × Value)} (h3 : es.toList.map (fun e => (e.key, e.val)) = m.map vent) : es.toList.map (·.key) = m.map (fun p => Value.int .i64 p.1) := by
  have := congrArg (List.map Prod.fst) h3
  simpa [List.map_map, Function.comp_def, vent] using this
theorem vnodup_of {es : Array MapEntry} {clock : Nat} {m : List (Int × Value)} (h2 : Stamped es clock) (h3 : es.toList.map (fun e => (e.key, e.val)) = m.map vent) : (m.map (·.1)).Nodup := by
  have h := h2.2.2
  rw [vkeys_eq h3] at h
  have e : m.map (fun p => Value.int .i64 p.1) = (m.map (·.1)).map (Value.int .i64) := by simp [List.map_map, Function.comp_def]
  rw [e] at h
  exact List.Pairwise.of_map (S := fun a b => a ≠ b) (R := fun a b => a ≠ b) (Value.int .i64) (fun a b hne e => hne (by rw [e])) h
theorem VMap.nodup {w : World} {b : Nat} {m : List (Int × Value)} (h : VMap w b m) : (m.map (·.1)).Nodup := by
  obtain ⟨es, clock, _, h2, h3⟩ := h
  exact vnodup_of h2 h3
theorem ventry_at {es : Array MapEntry} {m : List (Int × Value)} (h3 : es.toList.map (fun e => (e.key, e.val)) = m.map vent) {j : Nat} {e : MapEntry} (hj : es.toList[j]? = some e) : ∃ p, m[j]? = some p ∧ e.key = .int .i64 p.1 ∧ e.val = p.2 := by
  have h := congrArg (·[j]?) h3
  simp only [List.getElem?_map, hj, Option.map_some] at h
  cases hm : m[j]? with
  | none => rw [hm] at h; cases h
  | some p =>
    rw [hm] at h
    simp only [Option.map_some, Option.some.injEq, vent, Prod.mk.injEq] at h
    exact ⟨p, rfl, h.1, h.2⟩
section
variable {P : Program} {w : World} {b : Nat} {m : List (Int × Value)} {t kt et : TypeId}
theorem VMap.find (h : VMap w b m) (k : Int) : ∃ es clock, w.heap[b]? = some (.map es clock) ∧ Stamped es clock ∧ es.toList.map (fun e => (e.key, e.val)) = m.map vent ∧
    ((Instr.findNow (.int .i64) (.int .i64 k) es.toList 0 = some none ∧ vlk m k = none ∧ ∀ x ∈ es.toList, x.key ≠ .int .i64 k) ∨
     ∃ j e v, Instr.findNow (.int .i64) (.int .i64 k) es.toList 0 = some (some (j, e.val)) ∧ es.toList[j]? = some e ∧ e.key = .int .i64 k ∧ e.val = v ∧ m[j]? = some (k, v) ∧ vlk m k = some v) := by
  obtain ⟨es, clock, h1, h2, h3⟩ := h
  refine ⟨es, clock, h1, h2, h3, ?_⟩
  have hks : ∀ x ∈ es.toList, IsKey (.int .i64) x.key := fun x hx => by
    have : x.key ∈ es.toList.map (·.key) := List.mem_map.2 ⟨x, hx, rfl⟩
    rw [vkeys_eq h3] at this
    obtain ⟨p, _, e⟩ := List.mem_map.1 this
    rw [← e]; exact rfl
  rcases findNow_spec (d := .int .i64) (k := .int .i64 k) rfl es.toList 0 hks with ⟨f1, f2⟩ | ⟨j, e0, f1, f2, f3⟩
  · refine .inl ⟨f1, vlk_none (fun p hp e => ?_), f2⟩
    have : Value.int .i64 p.1 ∈ es.toList.map (·.key) := by rw [vkeys_eq h3]; exact List.mem_map.2 ⟨p, hp, rfl⟩
    obtain ⟨x, hx, e2⟩ := List.mem_map.1 this
    exact f2 x hx (by rw [e2, e])
  · obtain ⟨p, p1, p2, p3⟩ := ventry_at h3 f2
    have : p.1 = k := by rw [f3] at p2; exact (Value.int.inj p2).2.symm
    refine .inr ⟨j, e0, p.2, by simpa using f1, f2, f3, p3, by rw [p1, ← this], ?_⟩
    refine vlk_mem (vnodup_of h2 h3) ?_
    rw [← this]; exact List.mem_of_getElem? p1
theorem VMap.lookup (h : VMap w b m) (k : Int) (ht : P.underlying t = some (.map kt et)) (hk : P.underlying kt = some (.int .i64)) {z : Value} (hz : (zeroValue et).run P w = .ok z w) :
    (Instr.lookup t (.map (some b)) (.int .i64 k) true).run P w = .ok (.tuple #[(vlk m k).getD z, .bool (vlk m k).isSome]) w := by
  obtain ⟨es, clock, h1, h2, h3, f | f⟩ := h.find k
  · obtain ⟨f1, f2, _⟩ := f
    have q := run_findKey (P := P) (w := w) hk f1
    simp [Instr.lookup, run_underlying ht, MapKept.run_getObj_map h1, run_checkKey (P := P) (w := w) (k := .int .i64 k) hk rfl _ 9999, q, hz, Result.andThen, f2]
  · obtain ⟨j, e, v, f1, _, _, f4, _, f5⟩ := f
    have q := run_findKey (P := P) (w := w) hk f1
    simp [Instr.lookup, run_underlying ht, MapKept.run_getObj_map h1, run_checkKey (P := P) (w := w) (k := .int .i64 k) hk rfl _ 9999, q, Result.andThen, f4, f5]
theorem vput_mod {j : Nat} {k : Int} {v v0 : Value} (hn : (m.map (·.1)).Nodup) (hj : m[j]? = some (k, v0)) : vput m k v = m.modify j (fun _ => (k, v)) := by
  have h0 : vlk m k = some v0 := vlk_mem hn (List.mem_of_getElem? hj)
  unfold vput
  rw [h0, if_pos (show (some v0).isSome = true from rfl)]
  apply List.ext_getElem?
  intro i
  rw [List.getElem?_map, List.getElem?_modify]
  cases hi : m[i]? with
  | none => simp
  | some p =>
    simp only [Option.map_some]
    by_cases hij : j = i
    · subst hij; rw [hj] at hi; cases hi; simp
    · have hne : p.1 ≠ k := fun e => hij (by
        have a1 : (m.map (·.1))[i]? = some k := by rw [List.getElem?_map, hi]; simp [e]
        have a2 : (m.map (·.1))[j]? = some k := by rw [List.getElem?_map, hj]; simp
        have hl : j < (m.map (·.1)).length := by
          rcases Nat.lt_or_ge j (m.map (·.1)).length with q | q
          · exact q
          · rw [List.getElem?_eq_none q] at a2; cases a2
        exact (List.getElem?_inj hl hn).1 (a2.trans a1.symm))
      simp [hij, hne]
theorem vgrown_obj {w : World} {b : Nat} {o o' : Obj} (hb : w.heap[b]? = some o) : w.grownBy { w with heap := w.heap.setIfInBounds b o' } (some b) := by
  refine ⟨rfl, rfl, rfl, by simp, fun k hk hne => ?_⟩
  rw [Array.getElem?_setIfInBounds]
  have : b ≠ k := fun e => hne (by rw [e])
  simp [this]
theorem VMap.update (h : VMap w b m) (k : Int) (v : Value) (ht : P.underlying t = some (.map kt et)) (hk : P.underlying kt = some (.int .i64)) :
    ∃ w', (Instr.mapUpdate t (.map (some b)) (.int .i64 k) v).run P w = .ok () w' ∧ VMap w' b (vput m k v) ∧ w.grownBy w' (some b) := by
  have hlt := h.lt
  obtain ⟨es, clock, h1, h2, h3, f | f⟩ := h.find k
  · obtain ⟨f1, f2, f3⟩ := f
    have q := run_findKey (P := P) (w := w) hk f1
    refine ⟨{ w with heap := w.heap.setIfInBounds b (.map (es.push ⟨.int .i64 k, v, clock⟩) (clock + 1)) }, ?_, ⟨es.push ⟨.int .i64 k, v, clock⟩, clock + 1, ?_, stamped_push h2 f3, ?_⟩, vgrown_obj h1⟩
    · simp [Instr.mapUpdate, run_underlying ht, MapKept.run_getObj_map h1, run_checkKey (P := P) (w := w) (k := .int .i64 k) hk rfl _ 9999, q, Result.andThen, run_setObj_map _ h1]
    · simp [hlt]
    · simp [vput, f2, h3, vent]
  · obtain ⟨j, e, v0, f1, f2, f3, f4, f5, f6⟩ := f
    have q := run_findKey (P := P) (w := w) hk f1
    have hej : es[j]? = some e := by rw [← Array.getElem?_toList]; exact f2
    refine ⟨{ w with heap := w.heap.setIfInBounds b (.map (es.modify j fun e => { e with key := .int .i64 k, val := v }) clock) }, ?_, ⟨es.modify j (fun e => { e with key := .int .i64 k, val := v }), clock, ?_, stamped_modify h2 _ _ (fun _ _ => rfl) (fun x hx h4 => ?_), ?_⟩, vgrown_obj h1⟩
    · simp [Instr.mapUpdate, run_underlying ht, MapKept.run_getObj_map h1, run_checkKey (P := P) (w := w) (k := .int .i64 k) hk rfl _ 9999, q, Result.andThen, run_setObj_map _ h1, hej, f3, run_keyThatStays (P := P) (w := w) (d := .int .i64) (k := .int .i64 k) rfl]
    · simp [hlt]
    · rw [hej] at h4; cases h4; exact f3.symm
    · rw [vput_mod (vnodup_of h2 h3) f5]
      apply List.ext_getElem?
      intro i
      have h4 := congrArg (·[i]?) h3
      simp only [List.getElem?_map, Array.getElem?_toList] at h4
      simp only [List.getElem?_map, Array.getElem?_toList, Array.getElem?_modify, List.getElem?_modify]
      by_cases hij : j = i
      · subst hij
        rw [hej, f5]
        simp [vent]
      · simpa [hij] using h4
theorem VMap.clear (h : VMap w b m) (ty : TypeId) (ht : P.underlying t = some (.map kt et)) :
    ∃ w', (Builtin.clear_ #[t] ty #[.map (some b)]).run P w = .ok (.tuple #[]) w' ∧ VMap w' b [] ∧ w.grownBy w' (some b) := by
  have hlt := h.lt
  obtain ⟨es, clock, h1, h2, h3⟩ := h
  refine ⟨{ w with heap := w.heap.setIfInBounds b (.map #[] clock) }, ?_, ⟨#[], clock, by simp [hlt], stamped_empty clock, rfl⟩, vgrown_obj h1⟩
  simp [Builtin.clear_, run_underlying ht, MapKept.run_getObj_map h1, run_setObj_map _ h1, Result.andThen]
theorem VMap.new (w : World) : VMap (w.alloc (.map #[] 0)) w.heap.size [] := ⟨#[], 0, heap_alloc_new _ _, stamped_empty 0, rfl⟩
end
end Go.Eng
