/- Pieces of memory: their order; a known block and pieces at the start. No program in sight. -/
import Derived.Test.YticacnankpaohaaEng19
namespace Go.Eng
open Go.RowKit Go.Syn Go.MapKept
set_option linter.unusedVariables false
set_option linter.unusedSimpArgs false
theorem HX.ext {a b : HX} (hF : a.F = b.F) (hX : a.X = b.X) : a = b := by
  obtain ⟨F, X, l⟩ := a; obtain ⟨G, Y, l2⟩ := b
  cases hF; cases hX; rfl
theorem HX.and_comm (a b : HX) : a.and b = b.and a := HX.ext (by funext k; exact propext Or.comm) (by funext w; exact propext And.comm)
theorem HX.and_assoc (a b c : HX) : (a.and b).and c = a.and (b.and c) := HX.ext (by funext k; exact propext or_assoc) (by funext w; exact propext _root_.and_assoc)
theorem HX.and_right_comm (a b c : HX) : (a.and b).and c = (a.and c).and b := by rw [HX.and_assoc, HX.and_comm b c, ← HX.and_assoc]
/-- A known block, and pieces beside it. -/
theorem Facts.initx {P : Program} {w : World} {M : Nat → Prop} {R : Ending → World → Prop} {ρ : Env} {c : Cnt} {hx : HX} {b ty : Nat} {cs : List LV} {us : List Value} (hc : ρ.cnt = c) (h1 : ∀ v, v ∈ ρ.v → v.oneCell' = true) (h : Blk w b us ty) (he : cellsDen ρ [b] cs = us)
    (hM : M b) (hX : hx.X w) (hsep : ∀ k, hx.F k → k < w.heap.size ∧ k ≠ b) : Facts ⟨P, w, M, R⟩ ⟨[(ty, cs)], c⟩ ρ [b] hx w := by
  refine ⟨rfl, by simp, fun n t2 cs2 hn => ?_, fun id hid => ?_, Chg.refl _ _, hX, fun k hk => ⟨(hsep k hk).1, by simpa using (hsep k hk).2⟩, ⟨hc, h1⟩⟩
  · cases n with
    | zero =>
      simp only [List.getElem?_cons_zero, Option.some.injEq, Prod.mk.injEq] at hn
      obtain ⟨rfl, rfl⟩ := hn
      rw [he]; exact h
    | succ n => simp at hn
  · simp only [List.mem_singleton] at hid; subst hid; exact .inr hM
theorem Facts.initq {P : Program} {w : World} {R : Ending → World → Prop} {ρ : Env} {c : Cnt} {hx : HX} (hc : ρ.cnt = c) (h1 : ∀ v, v ∈ ρ.v → v.oneCell' = true) (hX : hx.X w) (hsep : ∀ k, hx.F k → k < w.heap.size) : Facts ⟨P, w, fun _ => False, R⟩ ⟨[], c⟩ ρ [] hx w :=
  ⟨rfl, by simp, (fun n t2 cs2 hn => by simp at hn), (fun id hid => by cases hid), Chg.refl _ _, hX, (fun k hk => ⟨hsep k hk, by simp⟩), ⟨hc, h1⟩⟩
theorem Chg.same {b : Nat} {W w : World} (h : Chg (fun x => x = b) W w) (e : w.heap[b]? = W.heap[b]?) : Chg (fun _ => False) W w := ⟨h.os, h.tape, h.output, h.size, fun k hk _ => by
  by_cases q : k = b
  · subst q; exact e
  · exact h.block k hk q⟩
theorem Chg.grown1 {b c : Nat} {W w : World} (h : Chg (fun x => x = b ∨ x = c) W w) (e : w.heap[b]? = W.heap[b]?) : W.grownBy w (some c) := ⟨h.os, h.tape, h.output, h.size, fun k hk hne => by
  by_cases q : k = b
  · subst q; exact e
  · exact h.block k hk (fun r => by
      rcases r with r | r
      · exact q r
      · exact hne (by rw [r]))⟩
section
variable {C : Cfg} {ρ : Env} {pre : List Nat} {hx : HX} {L : Stack} {m m' : Mem} {ty : Nat} {ps : List (Nat × SV)} {t : Tree}
/-- 'append(T(nil), xs...)', xs ints, not empty: a copy in new memory. -/
theorem node_appnil {st st2 e e2 : TypeId} {so xo : Operand} {ac : Go.Call} {r : SV} (hac : ac = { callee := .builtin .append, args := #[so, xo], argTypes := #[st, st2] }) (ht : C.P.underlying st = some (.slice e)) (ht2 : C.P.underlying st2 = some (.slice e2)) (hinfo : (C.P.info? e).map (fun i => (i.zero, i.size, i.bytes)) = some (some (.int .i64 0), 1, 8))
    (a : Option Addr) (cap : Nat) (xs : List Int) (hx_ : ∀ w, hx.X w → Ints w a xs) (h0 : 0 < xs.length) (hb : xs.length * 8 ≤ 140737488351232) (hso : ∀ ids, envOf ρ ids ps so = .slice none 0 0) (hxo : ∀ ids, envOf ρ ids ps xo = .slice a xs.length cap)
    (hr : ∀ i cap' ids, r.den (ρ.add ⟨[], [], [], [xs.length, cap'], [some ⟨i, 0, none⟩]⟩) ids = .slice (some ⟨i, 0, none⟩) xs.length cap') (hhp : m'.hp = m.hp) (hfit : hpFits m.c m.hp.length m.hp = true) (hc : ∀ i cap', (ρ.add ⟨[], [], [], [xs.length, cap'], [some ⟨i, 0, none⟩]⟩).cnt = m'.c)
    (h : ∀ i cap', C.W.heap.size ≤ i → ¬ hx.F i → t.holds C (ρ.add ⟨[], [], [], [xs.length, cap'], [some ⟨i, 0, none⟩]⟩) pre (hx.and (HX.ints (some ⟨i, 0, none⟩) xs)) L) :
    (Tree.gen (.call ac) ty ps m (some r) m' t).holds C ρ pre hx L := by
  intro ids w hp hf
  subst hac
  unfold GenRun
  obtain ⟨i0, hi, hz0, hz1, hz2⟩ := info_parts hinfo
  have I := hx_ w hf.x
  obtain ⟨cap', w', hrun, ho, hbel⟩ := Go.Syn.run_append_nil (P := C.P) w st st2 ty e e2 i0 (.int .i64 0) 1 8 ht ht2 hi hz0 hz1 hz2 rfl (by decide) a xs.length cap h0 (xs.map (Value.int .i64)) (by simp) I.cells (ints_oneCell _ _) (by unfold maxLen; omega) (by omega)
  have I' : Ints w' (some ⟨w.heap.size, 0, none⟩) xs := Ints.of_cells I.len I.fits (ownsRow_cells ho)
  simp only [execOp, resolve, invoke, builtin, hso, hxo, Sem.run_bind, Sem.run_pure, Result.andThen_ok, List.map_toArray, List.map_cons, List.map_nil, hrun]
  have hg : w.grownBy w' none := ⟨hbel.os, hbel.tape, hbel.output, hbel.size, fun k hk _ => hbel.block k hk⟩
  refine ⟨⟨[], [], [], [xs.length, cap'], [some ⟨w.heap.size, 0, none⟩]⟩, ids, hx.and (HX.ints (some ⟨w.heap.size, 0, none⟩) xs), ?_, List.prefix_refl _, hf.turn (hx' := hx.and (HX.ints (some ⟨w.heap.size, 0, none⟩) xs)) hg (fun b e => by cases e) ⟨hx.loc w w' hf.x fun k hk => hbel.block k (hf.sep k hk).1, I'⟩ (fun k hk => ?_) hhp hfit (hc _ _) oneNil, holds_pre t hp (h _ cap' hf.chg.size (fun q => by have := (hf.sep _ q).1; omega))⟩
  · simp only [Option.map_some, hr]
  · rcases hk with hk | ⟨_, rfl⟩
    · exact .inl hk
    · exact .inr ⟨Nat.le_refl _, (I'.at_ h0).2.1⟩
end
theorem con_push (s : Array Nat) (b x : Nat) : (s.push b).contains x = true ↔ s.contains x = true ∨ x = b := by
  simp [Array.mem_push]
theorem bornEq {es : Array MapEntry} {clock : Nat} (h : Stamped es clock) {e f : MapEntry} (he : e ∈ es.toList) (hf : f ∈ es.toList) (hb : f.born = e.born) : f = e := by
  obtain ⟨i, hi⟩ := List.mem_iff_getElem?.1 he
  obtain ⟨j, hj⟩ := List.mem_iff_getElem?.1 hf
  have a1 : (es.toList.map (·.born))[i]? = some e.born := by rw [List.getElem?_map, hi]; rfl
  have a2 : (es.toList.map (·.born))[j]? = some e.born := by rw [List.getElem?_map, hj, ← hb]; rfl
  have hl : i < (es.toList.map (·.born)).length := by
    rcases Nat.lt_or_ge i (es.toList.map (·.born)).length with q | q
    · exact q
    · rw [List.getElem?_eq_none q] at a1; cases a1
  have hij : i = j := (List.getElem?_inj hl h.2.1).1 (a1.trans a2.symm)
  subst hij
  rw [hi] at hj; exact (Option.some.inj hj).symm
theorem ints_own {w : World} {base e n cap : Nat} {a : Option Addr} {xs : List Int} (h : w.ownsRow base e 1 (.slice a n cap) n (xs.map (Value.int .i64))) (hl : xs.length ≤ 9223372036854775807) (hf : ∀ x ∈ xs, I64 x) : Ints w a xs := by
  rcases h.2 with ⟨q, q2⟩ | ⟨g, c2, cur, q, _⟩
  · have h1 := h.1
    rw [q2] at h1
    have : xs = [] := by simpa using h1
    subst this; exact Ints.nil
  · cases q
    exact Ints.of_cells hl hf (ownsRow_cells h)
end Go.Eng
