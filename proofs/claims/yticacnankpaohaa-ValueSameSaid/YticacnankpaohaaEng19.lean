/- Rows of the call's own, and steps over a map. No program in sight. -/
import Derived.Test.YticacnankpaohaaEng18
namespace Go.Eng
open Go.RowKit Go.Syn Go.MapKept
set_option linter.unusedVariables false
set_option linter.unusedSimpArgs false
section
variable {C : Cfg} {ρ : Env} {pre : List Nat} {hx rest : HX} {L : Stack} {m m' : Mem} {ty : Nat} {ps : List (Nat × SV)} {t : Tree}
/-- The block of an address. -/
def abk (a : Option Addr) : Option Nat := a.map (·.block)
/-- 'xs = append(xs, v)' onto a row of the call's own. -/
theorem node_push {st e : TypeId} {so xo : Operand} {ac : Go.Call} {r : SV} (hac : ac = { callee := .builtin .append, args := #[so, xo], argTypes := #[st, st] }) (ht : C.P.underlying st = some (.slice e)) (hinfo : (C.P.info? e).map (fun i => (i.zero, i.size, i.bytes)) = some (some (.int .i64 0), 1, 8))
    (a : Option Addr) (n cap : Nat) (xs : List Value) (v : Int) (bn : Nat) {e2 : Nat} {lv : LV} (hso : ∀ ids, envOf ρ ids ps so = .slice a n cap) (hxo : ∀ ids, envOf ρ ids ps xo = .slice (some ⟨idAt ids bn, 0, none⟩) 1 1) (hn : m.hp[bn]? = some (e2, [lv])) (hlv : ∀ ids, lv.den ρ ids = .int .i64 v)
    (hdis : ∀ k, abk a = some k → ¬ rest.F k) (hbytes : (n + 1) * 8 ≤ 140737488355328)
    (hr : ∀ a' cap' ids, r.den (ρ.add ⟨[], [], [], [n + 1, cap'], [a']⟩) ids = .slice a' (n + 1) cap') (hhp : m'.hp = m.hp) (hfit : hpFits m.c m.hp.length m.hp = true) (hc : ∀ a' cap', (ρ.add ⟨[], [], [], [n + 1, cap'], [a']⟩).cnt = m'.c)
    (h : ∀ a' cap', (∀ k, abk a' = some k → ¬ rest.F k) → t.holds C (ρ.add ⟨[], [], [], [n + 1, cap'], [a']⟩) pre (rest.and (HX.own C.W.heap.size e a' (n + 1) cap' (xs ++ [Value.int .i64 v]))) L) :
    (Tree.gen (.call ac) ty ps m (some r) m' t).holds C ρ pre (rest.and (HX.own C.W.heap.size e a n cap xs)) L := by
  intro ids w hp hf
  subst hac
  unfold GenRun
  obtain ⟨i0, hi, hz0, hz1, hz2⟩ := info_parts hinfo
  have hown : w.ownsRow C.W.heap.size e 1 (.slice a n cap) n xs := hf.x.2
  have hblk := hf.blk bn e2 [lv] hn
  have hnews : ∀ j u, [Value.int .i64 v][j]? = some u → w.cell? ((⟨idAt ids bn, 0, none⟩ : Addr).add j) = some u := fun j u hj => by
    cases j with
    | zero =>
      simp only [List.getElem?_cons_zero, Option.some.injEq] at hj
      subst hj
      simp [World.cell?, Addr.add, hblk, cellsDen, hlv]
    | succ j => simp at hj
  obtain ⟨v', w', hrun, ho, hg, hnil, hb⟩ := run_append_own_at (P := C.P) w C.W.heap.size st ty e i0 (.int .i64 0) 1 8 ht hi hz0 hz1 hz2 rfl (by decide) _ n xs hown ⟨idAt ids bn, 0, none⟩ 1 1 [.int .i64 v] (by simp) hnews (by simp [Value.oneCell']) (by unfold maxLen; omega) hbytes hf.chg.size
  obtain ⟨a', cap', rfl⟩ : ∃ a' cap', v' = .slice a' (n + 1) cap' := by
    rcases ho.2 with ⟨q, _⟩ | ⟨g, cap', cur, q, _⟩
    · have := (hnil.1 q).2; omega
    · exact ⟨_, _, q⟩
  have hob : ∀ (x : Option Addr) (p q : Nat), Value.ownBlock (.slice x p q) = abk x := fun x p q => by cases x <;> rfl
  rw [hob] at hg
  rw [hob, hob] at hb
  have hw' : ∀ k, abk a' = some k → k < w'.heap.size := fun k hk => by
    rcases ho.2 with ⟨q, _⟩ | ⟨g, c2, cur, q, _, hgk, _⟩
    · cases q
    · cases q
      cases hk
      rcases Nat.lt_or_ge g w'.heap.size with q2 | q2
      · exact q2
      · rw [Array.getElem?_eq_none q2] at hgk; cases hgk
  have hdis' : ∀ k, abk a' = some k → ¬ rest.F k := fun k hk hF => by
    rcases hb with hb | hb
    · exact hdis k (by rw [← hb]; exact hk) hF
    · rw [hb] at hk; cases hk
      have := (hf.sep _ (.inl hF)).1; omega
  simp only [execOp, resolve, invoke, builtin, hso, hxo, Sem.run_bind, Sem.run_pure, Result.andThen_ok, List.map_toArray, List.map_cons, List.map_nil, hrun]
  refine ⟨⟨[], [], [], [n + 1, cap'], [a']⟩, ids, rest.and (HX.own C.W.heap.size e a' (n + 1) cap' (xs ++ [Value.int .i64 v])), ?_, List.prefix_refl _, hf.turn (hx' := rest.and (HX.own C.W.heap.size e a' (n + 1) cap' (xs ++ [Value.int .i64 v]))) hg (fun b e => ?_) ⟨?_, ho⟩ (fun k hk => ?_) hhp hfit (hc _ _) oneNil, holds_pre t hp (h a' cap' hdis')⟩
  · simp only [Option.map_some, hr]
  · refine ⟨.inr e, .inl ?_⟩
    rcases hown.2 with ⟨q, _⟩ | ⟨g, c2, cur, q, hb2, _⟩
    · cases q; cases e
    · cases q; cases e; exact hb2
  · refine rest.loc w w' hf.x.1 fun k hk => hg.block k (hf.sep k (.inl hk)).1 fun q => hdis k q.symm hk
  · rcases hk with hk | hk
    · exact .inl (.inl hk)
    · rcases hb with hb | hb
      · exact .inl (.inr (show abk a = some k by rw [← hb]; exact hk))
      · have hk2 : abk a' = some k := hk
        have e3 := hw' k hk2
        rw [hb] at hk2; cases hk2
        exact .inr ⟨Nat.le_refl _, e3⟩
/-- 'range m'. -/
theorem node_range {mt kt et : TypeId} {xo : Operand} {r : SV} (b : Nat) (mm : List (Int × Int)) (hx_ : ∀ w, hx.X w → IMap w b mm) (hmo : ∀ ids, envOf ρ ids ps xo = .map (some b)) (ht : C.P.underlying mt = some (.map kt et))
    (hr : ∀ v ids, r.den (ρ.add ⟨[], [], [v], [], []⟩) ids = v) (hhp : m'.hp = m.hp) (hfit : hpFits m.c m.hp.length m.hp = true) (hc : ∀ v, (ρ.add ⟨[], [], [v], [], []⟩).cnt = m'.c) (hbF : hx.F b)
    (h : ∀ i es clock, C.W.heap.size ≤ i → ¬ hx.F i → Stamped es clock → es.toList.map (fun e => (e.key, e.val)) = mm.map ent →
      t.holds C (ρ.add ⟨[], [], [.pointer (some ⟨i, 0, none⟩)], [], []⟩) pre ((hx.and (HX.blk b (.map es clock))).and (HX.blk i (.mapIter (some b) clock #[] clock))) L) : (Tree.gen (.range mt xo) ty ps m (some r) m' t).holds C ρ pre hx L := by
  intro ids w hp hf
  unfold GenRun
  obtain ⟨es, clock, h1, h2, h3⟩ := hx_ w hf.x
  have hrun := run_range_map (P := C.P) w mt kt et b es clock ht h1
  simp only [execOp, hmo, Sem.run_bind, Sem.run_pure, Result.andThen_ok, hrun]
  have hg : w.grownBy (w.alloc (.mapIter (some b) clock #[] clock)) none := ⟨rfl, rfl, rfl, by show w.heap.size ≤ (w.heap.push _).size; simp, fun k hk _ => heap_alloc_old w _ hk⟩
  have hold : ∀ k, hx.F k → (w.alloc (.mapIter (some b) clock #[] clock)).heap[k]? = w.heap[k]? := fun k hk => heap_alloc_old w _ (hf.sep k hk).1
  refine ⟨⟨[], [], [.pointer (some ⟨w.heap.size, 0, none⟩)], [], []⟩, ids, _, ?_, List.prefix_refl _, hf.turn (hx' := (hx.and (HX.blk b (.map es clock))).and (HX.blk w.heap.size (.mapIter (some b) clock #[] clock))) hg (fun b' e => by cases e) ⟨⟨hx.loc _ _ hf.x hold, ?_⟩, heap_alloc_new _ _⟩ (fun k hk => ?_) hhp hfit (hc _) (fun v hv => ?_), holds_pre t hp (h w.heap.size es clock hf.chg.size (fun q => by have := (hf.sep _ q).1; omega) h2 h3)⟩
  · simp only [Option.map_some, hr]
  · show (w.alloc _).heap[b]? = _
    rw [hold b hbF]; exact h1
  · rcases hk with (hk | hk) | hk
    · exact .inl hk
    · exact .inl (by rw [show k = b from hk]; exact hbF)
    · exact .inr ⟨Nat.le_of_eq hk.symm, by rw [show k = w.heap.size from hk]; show w.heap.size < (w.heap.push _).size; simp⟩
  · simp only [List.mem_singleton] at hv; subst hv; rfl
/-- A step of the range: it is over, or one that is left comes out, whichever. -/
theorem node_next {xo : Operand} {r : SV} (i b since : Nat) (seen : Array Nat) (es : Array MapEntry) (clock : Nat) (hx_ : ∀ w, rest.X w → w.heap[b]? = some (.map es clock)) (hes : Stamped es clock) (hi : C.W.heap.size ≤ i) (hdis : ¬ rest.F i) (mm : List (Int × Int)) (hmm : es.toList.map (fun e => (e.key, e.val)) = mm.map ent)
    (hmo : ∀ ids, envOf ρ ids ps xo = .pointer (some ⟨i, 0, none⟩)) (hr0 : ∀ k v ids, r.den (ρ.add ⟨[k, v], [false], [], [], []⟩) ids = .tuple #[.bool false]) (hr1 : ∀ k v ids, r.den (ρ.add ⟨[k, v], [true], [], [], []⟩) ids = .tuple #[.bool true, .int .i64 k, .int .i64 v])
    (hhp : m'.hp = m.hp) (hfit : hpFits m.c m.hp.length m.hp = true) (hc : ∀ k v c, (ρ.add ⟨[k, v], [c], [], [], []⟩).cnt = m'.c)
    (hA : (leftOf es seen).size = 0 → t.holds C (ρ.add ⟨[0, 0], [false], [], [], []⟩) pre (rest.and (HX.blk i (.mapIter (some b) clock seen clock))) L)
    (hB : ∀ e k v, e ∈ (leftOf es seen).toList → e ∈ es.toList → e.key = .int .i64 k → e.val = .int .i64 v → t.holds C (ρ.add ⟨[k, v], [true], [], [], []⟩) pre (rest.and (HX.blk i (.mapIter (some b) clock (seen.push e.born) clock))) L) :
    (Tree.gen (.next xo false) ty ps m (some r) m' t).holds C ρ pre (rest.and (HX.blk i (.mapIter (some b) clock seen clock))) L := by
  intro ids w hp hf
  unfold GenRun
  have hb := hx_ w hf.x.1
  have hi0 : w.heap[i]? = some (.mapIter (some b) clock seen clock) := hf.x.2
  rcases run_next_at (P := C.P) w ty i b clock clock seen es clock hi0 hb hes.1 (Nat.le_refl _) with ⟨h0, hrun⟩ | ⟨e, he, w1, hw1, hrun⟩
  · simp only [execOp, hmo, Sem.run_bind, Sem.run_pure, Result.andThen_ok, hrun]
    refine ⟨⟨[0, 0], [false], [], [], []⟩, ids, _, ?_, List.prefix_refl _, hf.turn (grown_none w) (fun b' e => by cases e) hf.x (fun k hk => .inl hk) hhp hfit (hc _ _ _) oneNil, holds_pre t hp (hA h0)⟩
    simp only [Option.map_some, hr0]
  · simp only [execOp, hmo, Sem.run_bind, Sem.run_pure, Result.andThen_ok, hrun]
    have hee : e ∈ es.toList := by
      have := he; unfold leftOf at this; simp at this; simpa using this.1
    obtain ⟨j, hj⟩ := List.mem_iff_getElem?.1 hee
    obtain ⟨p, _, p2, p3⟩ := entry_at hmm hj
    have hg : w.grownBy (ChangeMaps.setBlock w1 i (.mapIter (some b) clock (seen.push e.born) clock)) (some i) := by
      have : w1.heap[i]? = some (.mapIter (some b) clock seen clock) := by rcases hw1 with rfl | rfl <;> exact hi0
      have g := grown_obj (o' := .mapIter (some b) clock (seen.push e.born) clock) this
      rcases hw1 with rfl | rfl
      · exact g
      · exact ⟨g.os, g.tape, g.output, g.size, g.block⟩
    have hlt : i < w1.heap.size := by
      have : i < w.heap.size := (hf.sep i (.inr rfl)).1
      rcases hw1 with rfl | rfl <;> exact this
    refine ⟨⟨[p.1, p.2], [true], [], [], []⟩, ids, _, ?_, List.prefix_refl _, hf.turn (hx' := rest.and (HX.blk i (.mapIter (some b) clock (seen.push e.born) clock))) hg (fun b' e => by cases e; exact ⟨.inr rfl, .inl hi⟩) ⟨?_, ?_⟩ (fun k hk => .inl hk) hhp hfit (hc _ _ _) oneNil, holds_pre t hp (hB e p.1 p.2 he hee p2 p3)⟩
    · simp only [Option.map_some, hr1, p2, p3]
    · exact rest.loc w _ hf.x.1 fun k hk => hg.block k (hf.sep k (.inl hk)).1 fun q => hdis (by cases q; exact hk)
    · show (w1.heap.setIfInBounds i _)[i]? = _
      simp [hlt]
/-- The round's key and value. -/
theorem node_entry {xo : Operand} {r : SV} (i b since : Nat) (seen : Array Nat) (es : Array MapEntry) (clock : Nat) (e : MapEntry) (k v : Int) (hx_ : ∀ w, hx.X w → w.heap[b]? = some (.map es clock) ∧ w.heap[i]? = some (.mapIter (some b) since (seen.push e.born) clock)) (hes : Stamped es clock) (he : e ∈ es.toList) (hk : e.key = .int .i64 k) (hv : e.val = .int .i64 v)
    (hmo : ∀ ids, envOf ρ ids ps xo = .pointer (some ⟨i, 0, none⟩)) (hr : ∀ ids, r.den (ρ.add ⟨[k, v], [], [], [], []⟩) ids = .tuple #[.int .i64 k, .int .i64 v]) (hhp : m'.hp = m.hp) (hfit : hpFits m.c m.hp.length m.hp = true) (hc : (ρ.add ⟨[k, v], [], [], [], []⟩).cnt = m'.c)
    (h : t.holds C (ρ.add ⟨[k, v], [], [], [], []⟩) pre hx L) : (Tree.gen (.entry xo) ty ps m (some r) m' t).holds C ρ pre hx L := by
  intro ids w hp hf
  unfold GenRun
  obtain ⟨h1, h2⟩ := hx_ w hf.x
  have hrun := run_entry_at (P := C.P) w i b since seen es clock e h2 h1 he hes.2.1
  simp only [execOp, hmo, Sem.run_bind, Sem.run_pure, Result.andThen_ok, hrun]
  refine ⟨⟨[k, v], [], [], [], []⟩, ids, hx, ?_, List.prefix_refl _, hf.turn (grown_none w) (fun b' e => by cases e) hf.x (fun k hk => .inl hk) hhp hfit hc oneNil, holds_pre t hp h⟩
  simp only [Option.map_some, hr, hk, hv]
end
end Go.Eng
