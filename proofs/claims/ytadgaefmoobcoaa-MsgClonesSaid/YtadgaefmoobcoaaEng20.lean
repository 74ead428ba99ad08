/- Merged from XEng18 XEng19 XEng20. -/
import Derived.Test.YtadgaefmoobcoaaEng17
import Derived.Test.YtadgaefmoobcoaaIMap
/- Memory beside the blocks that are known: pieces that compose, and operations on them. No program in sight. -/
namespace Go.Eng
open Go.RowKit Go.Syn
set_option linter.unusedVariables false
set_option linter.unusedSimpArgs false
/-! ### Pieces -/
def HX.and (a b : HX) : HX := ⟨fun k => a.F k ∨ b.F k, fun w => a.X w ∧ b.X w, fun w w' h e => ⟨a.loc w w' h.1 fun k hk => e k (.inl hk), b.loc w w' h.2 fun k hk => e k (.inr hk)⟩⟩
theorem Ints.loc {w w' : World} {a : Option Addr} {xs : List Int} (h : Ints w a xs) (e : xs ≠ [] → w'.heap[blk a]? = w.heap[blk a]?) : Ints w' a xs := by
  refine ⟨h.len, h.fits, fun h0 => ?_⟩
  obtain ⟨ha, hb, hc⟩ := h.at_ h0
  have e2 := e (fun q => by rw [q] at h0; simp at h0)
  refine ⟨ha, ?_, fun i hi => by rw [World.cell?_of_block (w := w) e2]; exact hc i hi⟩
  rcases Nat.lt_or_ge (blk a) w'.heap.size with q | q
  · exact q
  · rw [Array.getElem?_eq_none q, Array.getElem?_eq_getElem hb] at e2; cases e2
/-- A row of ints that is read. -/
def HX.ints (a : Option Addr) (xs : List Int) : HX := ⟨fun k => xs ≠ [] ∧ k = blk a, fun w => Ints w a xs, fun w w' h e => Ints.loc h fun hx => e _ ⟨hx, rfl⟩⟩
/-- A map. -/
def HX.imap (b : Nat) (m : List (Int × Int)) : HX := ⟨fun k => k = b, fun w => IMap w b m, fun w w' h e => h.loc (e b rfl)⟩
/-- A block that is known whole. -/
def HX.blk (b : Nat) (o : Obj) : HX := ⟨fun k => k = b, fun w => w.heap[b]? = some o, fun w w' h e => by rw [e b rfl]; exact h⟩
/-- A row of the call's own. -/
def HX.own (base e : Nat) (a : Option Addr) (n cap : Nat) (xs : List Value) : HX :=
  ⟨fun k => a.map (·.block) = some k, fun w => w.ownsRow base e 1 (.slice a n cap) n xs, fun w w' h eq => by
    refine ⟨h.1, ?_⟩
    rcases h.2 with q | ⟨g, c, cur, hv, hb, hg, rest⟩
    · exact .inl q
    · refine .inr ⟨g, c, cur, hv, hb, ?_, rest⟩
      cases hv
      rw [eq g rfl]; exact hg⟩
def HX.prop (p : Prop) : HX := ⟨fun _ => False, fun _ => p, fun _ _ h _ => h⟩

section
variable {C : Cfg} {ρ : Env} {pre : List Nat} {hx hx' : HX} {L : Stack} {m m' : Mem} {ids : List Nat} {w w' : World} {vs : Vals}
/-- Blocks beside the known ones change, or are made. -/
theorem envUp' {c' : Cnt} (hf : Facts C m ρ ids hx w) (hc : (ρ.add vs).cnt = c') (h1 : ∀ v, v ∈ vs.v → v.oneCell' = true) : EnvOk (ρ.add vs) c' := by
  refine ⟨hc, fun v hv => ?_⟩
  simp only [Env.add, List.mem_append] at hv
  rcases hv with hv | hv
  · exact hf.cnt.one v hv
  · exact h1 v hv
theorem Facts.turn {row : Option Nat} (hf : Facts C m ρ ids hx w) (hg : w.grownBy w' row) (hrow : ∀ b, row = some b → hx.F b ∧ (C.W.heap.size ≤ b ∨ C.M b)) (hX : hx'.X w') (hF : ∀ b, hx'.F b → hx.F b ∨ (w.heap.size ≤ b ∧ b < w'.heap.size))
    (hhp : m'.hp = m.hp) (hfit : hpFits m.c m.hp.length m.hp = true) (hc : (ρ.add vs).cnt = m'.c) (h1 : ∀ v, v ∈ vs.v → v.oneCell' = true) : Facts C m' (ρ.add vs) ids hx' w' := by
  refine ⟨by rw [hf.len, hhp], hf.nod, fun k t2 cs2 hk => ?_, hf.own, ?_, hX, ?_, envUp' hf hc h1⟩
  · rw [hhp] at hk
    have hk2 : k < m.hp.length := by
      rcases Nat.lt_or_ge k m.hp.length with q | q
      · exact q
      · rw [List.getElem?_eq_none q] at hk; cases hk
    have hmem := idAt_mem (ids := ids) (n := k) (hf.len ▸ hk2)
    rw [hg.block _ (hf.id_lt hmem) (fun e2 => (hf.sep _ (hrow _ e2.symm).1).2 hmem)]
    rw [hf.blk k t2 cs2 hk, cellsDen_add hf.cnt.cnt (List.prefix_refl _) hf.len (List.all_eq_true.1 hfit _ (List.mem_of_getElem? hk))]
  · refine ⟨hg.os.trans hf.chg.os, hg.tape.trans hf.chg.tape, hg.output.trans hf.chg.output, Nat.le_trans hf.chg.size hg.size, fun k hk hM => ?_⟩
    rw [hg.block k (Nat.lt_of_lt_of_le hk hf.chg.size) (fun e => ?_)]
    · exact hf.chg.block k hk hM
    · rcases (hrow _ e.symm).2 with g | g
      · omega
      · exact hM g
  · intro b hb
    rcases hF b hb with h | ⟨h2, h3⟩
    · exact ⟨Nat.lt_of_lt_of_le (hf.sep b h).1 hg.size, (hf.sep b h).2⟩
    · exact ⟨h3, fun hm => by have := hf.id_lt hm; omega⟩
theorem grown_none (w : World) : w.grownBy w none := World.grownBy.refl _ _
variable {ty : Nat} {ps : List (Nat × SV)} {t : Tree}
/-- 'v, ok := m[k]' over ints. -/
theorem node_lookup {mt kt et : TypeId} {xo ko : Operand} {r : SV} (b : Nat) (mm : List (Int × Int)) (k : Int) (hx_ : ∀ w, hx.X w → IMap w b mm) (hmo : ∀ ids, envOf ρ ids ps xo = .map (some b)) (hko : ∀ ids, envOf ρ ids ps ko = .int .i64 k)
    (ht : C.P.underlying mt = some (.map kt et)) (hk : C.P.underlying kt = some (.int .i64)) (hz : ∀ w, (zeroValue et).run C.P w = .ok (.int .i64 0) w)
    (hr : ∀ ids, r.den (ρ.add ⟨[(lk mm k).getD 0], [(lk mm k).isSome], [], [], []⟩) ids = .tuple #[.int .i64 ((lk mm k).getD 0), .bool (lk mm k).isSome]) (hhp : m'.hp = m.hp) (hfit : hpFits m.c m.hp.length m.hp = true) (hc : (ρ.add ⟨[(lk mm k).getD 0], [(lk mm k).isSome], [], [], []⟩).cnt = m'.c)
    (h : t.holds C (ρ.add ⟨[(lk mm k).getD 0], [(lk mm k).isSome], [], [], []⟩) pre hx L) : (Tree.gen (.lookup mt xo ko true) ty ps m (some r) m' t).holds C ρ pre hx L := by
  intro ids w hp hf
  unfold GenRun
  have hrun := (hx_ w hf.x).lookup (P := C.P) (t := mt) k ht hk (hz w)
  simp only [execOp, hmo, hko, Sem.run_bind, Sem.run_pure, Result.andThen_ok, hrun]
  refine ⟨_, ids, hx, ?_, List.prefix_refl _, hf.turn (grown_none w) (fun b hb => by cases hb) hf.x (fun b hb => .inl hb) hhp hfit hc oneNil, holds_pre t hp h⟩
  simp only [Option.map_some, hr]
/-- 'm[k] = v' over ints. -/
theorem node_update {mt kt et : TypeId} {xo ko vo : Operand} (hx' : HX) (b : Nat) (mm : List (Int × Int)) (k v : Int) (hx_ : ∀ w, hx.X w → IMap w b mm) (hb : hx.F b) (hown : ∀ w, hx.X w → C.W.heap.size ≤ b ∨ C.M b) (hmo : ∀ ids, envOf ρ ids ps xo = .map (some b)) (hko : ∀ ids, envOf ρ ids ps ko = .int .i64 k) (hvo : ∀ ids, envOf ρ ids ps vo = .int .i64 v)
    (ht : C.P.underlying mt = some (.map kt et)) (hk : C.P.underlying kt = some (.int .i64)) (hX : ∀ w w', hx.X w → IMap w' b (putm mm k v) → w.grownBy w' (some b) → hx'.X w') (hF : ∀ k, hx'.F k → hx.F k) (hhp : m'.hp = m.hp) (hfit : hpFits m.c m.hp.length m.hp = true) (hc : ρ.cnt = m'.c)
    (h : t.holds C ρ pre hx' L) : (Tree.gen (.mapUpdate mt xo ko vo) ty ps m none m' t).holds C ρ pre hx L := by
  intro ids w hp hf
  unfold GenRun
  obtain ⟨w', hrun, h1, h2⟩ := (hx_ w hf.x).update (P := C.P) (t := mt) k v ht hk
  simp only [execOp, hmo, hko, hvo, Sem.run_bind, Sem.run_pure, Result.andThen_ok, hrun]
  refine ⟨Vals.nil, ids, hx', rfl, List.prefix_refl _, hf.turn h2 (fun b' e => by cases e; exact ⟨hb, hown w hf.x⟩) (hX w w' hf.x h1 h2) (fun k hk => .inl (hF k hk)) hhp hfit (by rw [Env.add_nil]; exact hc) oneNil, ?_⟩
  rw [Env.add_nil]; exact holds_pre t hp h
/-- 'clear(m)'. -/
theorem node_clear {mt kt et : TypeId} {xo : Operand} {ac : Go.Call} (hx' : HX) (b : Nat) (mm : List (Int × Int)) (hac : ac = { callee := .builtin .clear, args := #[xo], argTypes := #[mt] }) (hx_ : ∀ w, hx.X w → IMap w b mm) (hb : hx.F b) (hown : ∀ w, hx.X w → C.W.heap.size ≤ b ∨ C.M b) (hmo : ∀ ids, envOf ρ ids ps xo = .map (some b))
    (ht : C.P.underlying mt = some (.map kt et)) (hX : ∀ w w', hx.X w → IMap w' b [] → w.grownBy w' (some b) → hx'.X w') (hF : ∀ k, hx'.F k → hx.F k) (hhp : m'.hp = m.hp) (hfit : hpFits m.c m.hp.length m.hp = true) (hc : ρ.cnt = m'.c)
    (h : t.holds C ρ pre hx' L) : (Tree.gen (.call ac) ty ps m (some (.tup [])) m' t).holds C ρ pre hx L := by
  intro ids w hp hf
  subst hac
  unfold GenRun
  obtain ⟨w', hrun, h1, h2⟩ := (hx_ w hf.x).clear (P := C.P) (t := mt) ty ht
  simp only [execOp, resolve, invoke, builtin, hmo, Sem.run_bind, Sem.run_pure, Result.andThen_ok, List.map_toArray, List.map_cons, List.map_nil, hrun]
  refine ⟨Vals.nil, ids, hx', rfl, List.prefix_refl _, hf.turn h2 (fun b' e => by cases e; exact ⟨hb, hown w hf.x⟩) (hX w w' hf.x h1 h2) (fun k hk => .inl (hF k hk)) hhp hfit (by rw [Env.add_nil]; exact hc) oneNil, ?_⟩
  rw [Env.add_nil]; exact holds_pre t hp h
/-- 'map[int]int{}'. -/
theorem node_makeMap {mt : TypeId} {r : SV} (hr : ∀ v ids, r.den (ρ.add ⟨[], [], [v], [], []⟩) ids = v) (hhp : m'.hp = m.hp) (hfit : hpFits m.c m.hp.length m.hp = true) (hc : ∀ v, (ρ.add ⟨[], [], [v], [], []⟩).cnt = m'.c)
    (h : ∀ b, C.W.heap.size ≤ b → ¬ hx.F b → t.holds C (ρ.add ⟨[], [], [.map (some b)], [], []⟩) pre (hx.and (HX.imap b [])) L) : (Tree.gen (.makeMap mt none) ty ps m (some r) m' t).holds C ρ pre hx L := by
  intro ids w hp hf
  unfold GenRun
  have hrun := run_makeMap (P := C.P) mt w
  simp only [execOp, Option.map_none, Sem.run_bind, Sem.run_pure, Result.andThen_ok, hrun]
  have hg : w.grownBy (w.alloc (.map #[] 0)) none := ⟨rfl, rfl, rfl, by show w.heap.size ≤ (w.heap.push _).size; simp, fun k hk _ => heap_alloc_old w _ hk⟩
  refine ⟨⟨[], [], [.map (some w.heap.size)], [], []⟩, ids, hx.and (HX.imap w.heap.size []), ?_, List.prefix_refl _, hf.turn hg (fun b' e => by cases e) ⟨hx.loc _ _ hf.x fun b hb => heap_alloc_old w _ (hf.sep b hb).1, IMap.new w⟩ (fun k hk => ?_) hhp hfit (hc _) (fun v hv => ?_), holds_pre t hp (h _ hf.chg.size (fun q => by have := (hf.sep _ q).1; omega))⟩
  · simp only [Option.map_some, hr]
  · rcases hk with hk | hk
    · exact .inl hk
    · exact .inr ⟨Nat.le_of_eq hk.symm, by rw [show k = w.heap.size from hk]; show w.heap.size < (w.heap.push _).size; simp⟩
  · simp only [List.mem_singleton] at hv; subst hv; rfl
end
end Go.Eng

/- Rows of the call's own, and steps over a map. No program in sight. -/
namespace Go.Eng
open Go.RowKit Go.Syn Go.MapKept
set_option linter.unusedVariables false
set_option linter.unusedSimpArgs false
section
variable {C : Cfg} {ρ : Env} {pre : List Nat} {hx rest : HX} {L : Stack} {m m' : Mem} {ty : Nat} {ps : List (Nat × SV)} {t : Tree}
/-- The block of an address. -/
def abk (a : Option Addr) : Option Nat := a.map (·.block)
/-- 'xs = append(xs, v)' onto a row of the call's own. -/
theorem node_push {st e : TypeId} {so xo : Operand} {ac : Go.Call} {r : SV} (hac : ac = { callee := .builtin .append, args := #[so, xo], argTypes := #[st, st] }) (ht : C.P.underlying st = some (.slice e)) (hinfo : (C.P.info? e).map (fun i => (i.zero, i.size, i.bytes)) = some (some (.int .i64 0), 1, 8))
    (a : Option Addr) (n cap : Nat) (xs : List Value) (v : Int) (bn : Nat) {e2 : Nat} {lv : LV} (hso : ∀ ids, envOf ρ ids ps so = .slice a n cap) (hxo : ∀ ids, envOf ρ ids ps xo = .slice (some ⟨idAt ids bn, 0, none⟩) 1 1) (hn : m.hp[bn]? = some (e2, [lv])) (hlv : ∀ ids, lv.den ρ ids = .int .i64 v)
    (hdis : ∀ k, abk a = some k → ¬ rest.F k) (hbytes : (n + 1) * 8 ≤ 140737488355328)
    (hr : ∀ a' cap' ids, r.den (ρ.add ⟨[], [], [], [n + 1, cap'], [a']⟩) ids = .slice a' (n + 1) cap') (hhp : m'.hp = m.hp) (hfit : hpFits m.c m.hp.length m.hp = true) (hc : ∀ a' cap', (ρ.add ⟨[], [], [], [n + 1, cap'], [a']⟩).cnt = m'.c)
    (h : ∀ a' cap', (∀ k, abk a' = some k → ¬ rest.F k) → t.holds C (ρ.add ⟨[], [], [], [n + 1, cap'], [a']⟩) pre (rest.and (HX.own C.W.heap.size e a' (n + 1) cap' (xs ++ [Value.int .i64 v]))) L) :
    (Tree.gen (.call ac) ty ps m (some r) m' t).holds C ρ pre (rest.and (HX.own C.W.heap.size e a n cap xs)) L := by
  intro ids w hp hf
  subst hac
  unfold GenRun
  obtain ⟨i0, hi, hz0, hz1, hz2⟩ := info_parts hinfo
  have hown : w.ownsRow C.W.heap.size e 1 (.slice a n cap) n xs := hf.x.2
  have hblk := hf.blk bn e2 [lv] hn
  have hnews : ∀ j u, [Value.int .i64 v][j]? = some u → w.cell? ((⟨idAt ids bn, 0, none⟩ : Addr).add j) = some u := fun j u hj => by
    cases j with
    | zero =>
      simp only [List.getElem?_cons_zero, Option.some.injEq] at hj
      subst hj
      simp [World.cell?, Addr.add, hblk, cellsDen, hlv]
    | succ j => simp at hj
  obtain ⟨v', w', hrun, ho, hg, hnil, hb⟩ := run_append_own_at (P := C.P) w C.W.heap.size st ty e i0 (.int .i64 0) 1 8 ht hi hz0 hz1 hz2 rfl (by decide) _ n xs hown ⟨idAt ids bn, 0, none⟩ 1 1 [.int .i64 v] (by simp) hnews (by simp [Value.oneCell']) (by unfold maxLen; omega) hbytes hf.chg.size
  obtain ⟨a', cap', rfl⟩ : ∃ a' cap', v' = .slice a' (n + 1) cap' := by
    rcases ho.2 with ⟨q, _⟩ | ⟨g, cap', cur, q, _⟩
    · have := (hnil.1 q).2; omega
    · exact ⟨_, _, q⟩
  have hob : ∀ (x : Option Addr) (p q : Nat), Value.ownBlock (.slice x p q) = abk x := fun x p q => by cases x <;> rfl
  rw [hob] at hg
  rw [hob, hob] at hb
  have hw' : ∀ k, abk a' = some k → k < w'.heap.size := fun k hk => by
    rcases ho.2 with ⟨q, _⟩ | ⟨g, c2, cur, q, _, hgk, _⟩
    · cases q
    · cases q
      cases hk
      rcases Nat.lt_or_ge g w'.heap.size with q2 | q2
      · exact q2
      · rw [Array.getElem?_eq_none q2] at hgk; cases hgk
  have hdis' : ∀ k, abk a' = some k → ¬ rest.F k := fun k hk hF => by
    rcases hb with hb | hb
    · exact hdis k (by rw [← hb]; exact hk) hF
    · rw [hb] at hk; cases hk
      have := (hf.sep _ (.inl hF)).1; omega
  simp only [execOp, resolve, invoke, builtin, hso, hxo, Sem.run_bind, Sem.run_pure, Result.andThen_ok, List.map_toArray, List.map_cons, List.map_nil, hrun]
  refine ⟨⟨[], [], [], [n + 1, cap'], [a']⟩, ids, rest.and (HX.own C.W.heap.size e a' (n + 1) cap' (xs ++ [Value.int .i64 v])), ?_, List.prefix_refl _, hf.turn (hx' := rest.and (HX.own C.W.heap.size e a' (n + 1) cap' (xs ++ [Value.int .i64 v]))) hg (fun b e => ?_) ⟨?_, ho⟩ (fun k hk => ?_) hhp hfit (hc _ _) oneNil, holds_pre t hp (h a' cap' hdis')⟩
  · simp only [Option.map_some, hr]
  · refine ⟨.inr e, .inl ?_⟩
    rcases hown.2 with ⟨q, _⟩ | ⟨g, c2, cur, q, hb2, _⟩
    · cases q; cases e
    · cases q; cases e; exact hb2
  · refine rest.loc w w' hf.x.1 fun k hk => hg.block k (hf.sep k (.inl hk)).1 fun q => hdis k q.symm hk
  · rcases hk with hk | hk
    · exact .inl (.inl hk)
    · rcases hb with hb | hb
      · exact .inl (.inr (show abk a = some k by rw [← hb]; exact hk))
      · have hk2 : abk a' = some k := hk
        have e3 := hw' k hk2
        rw [hb] at hk2; cases hk2
        exact .inr ⟨Nat.le_refl _, e3⟩
/-- 'range m'. -/
theorem node_range {mt kt et : TypeId} {xo : Operand} {r : SV} (b : Nat) (mm : List (Int × Int)) (hx_ : ∀ w, hx.X w → IMap w b mm) (hmo : ∀ ids, envOf ρ ids ps xo = .map (some b)) (ht : C.P.underlying mt = some (.map kt et))
    (hr : ∀ v ids, r.den (ρ.add ⟨[], [], [v], [], []⟩) ids = v) (hhp : m'.hp = m.hp) (hfit : hpFits m.c m.hp.length m.hp = true) (hc : ∀ v, (ρ.add ⟨[], [], [v], [], []⟩).cnt = m'.c) (hbF : hx.F b)
    (h : ∀ i es clock, C.W.heap.size ≤ i → ¬ hx.F i → Stamped es clock → es.toList.map (fun e => (e.key, e.val)) = mm.map ent →
      t.holds C (ρ.add ⟨[], [], [.pointer (some ⟨i, 0, none⟩)], [], []⟩) pre ((hx.and (HX.blk b (.map es clock))).and (HX.blk i (.mapIter (some b) clock #[] clock))) L) : (Tree.gen (.range mt xo) ty ps m (some r) m' t).holds C ρ pre hx L := by
  intro ids w hp hf
  unfold GenRun
  obtain ⟨es, clock, h1, h2, h3⟩ := hx_ w hf.x
  have hrun := run_range_map (P := C.P) w mt kt et b es clock ht h1
  simp only [execOp, hmo, Sem.run_bind, Sem.run_pure, Result.andThen_ok, hrun]
  have hg : w.grownBy (w.alloc (.mapIter (some b) clock #[] clock)) none := ⟨rfl, rfl, rfl, by show w.heap.size ≤ (w.heap.push _).size; simp, fun k hk _ => heap_alloc_old w _ hk⟩
  have hold : ∀ k, hx.F k → (w.alloc (.mapIter (some b) clock #[] clock)).heap[k]? = w.heap[k]? := fun k hk => heap_alloc_old w _ (hf.sep k hk).1
  refine ⟨⟨[], [], [.pointer (some ⟨w.heap.size, 0, none⟩)], [], []⟩, ids, _, ?_, List.prefix_refl _, hf.turn (hx' := (hx.and (HX.blk b (.map es clock))).and (HX.blk w.heap.size (.mapIter (some b) clock #[] clock))) hg (fun b' e => by cases e) ⟨⟨hx.loc _ _ hf.x hold, ?_⟩, heap_alloc_new _ _⟩ (fun k hk => ?_) hhp hfit (hc _) (fun v hv => ?_), holds_pre t hp (h w.heap.size es clock hf.chg.size (fun q => by have := (hf.sep _ q).1; omega) h2 h3)⟩
  · simp only [Option.map_some, hr]
  · show (w.alloc _).heap[b]? = _
    rw [hold b hbF]; exact h1
  · rcases hk with (hk | hk) | hk
    · exact .inl hk
    · exact .inl (by rw [show k = b from hk]; exact hbF)
    · exact .inr ⟨Nat.le_of_eq hk.symm, by rw [show k = w.heap.size from hk]; show w.heap.size < (w.heap.push _).size; simp⟩
  · simp only [List.mem_singleton] at hv; subst hv; rfl
/-- A step of the range: it is over, or one that is left comes out, whichever. -/
theorem node_next {xo : Operand} {r : SV} (i b since : Nat) (seen : Array Nat) (es : Array MapEntry) (clock : Nat) (hx_ : ∀ w, rest.X w → w.heap[b]? = some (.map es clock)) (hes : Stamped es clock) (hi : C.W.heap.size ≤ i) (hdis : ¬ rest.F i) (mm : List (Int × Int)) (hmm : es.toList.map (fun e => (e.key, e.val)) = mm.map ent)
    (hmo : ∀ ids, envOf ρ ids ps xo = .pointer (some ⟨i, 0, none⟩)) (hr0 : ∀ k v ids, r.den (ρ.add ⟨[k, v], [false], [], [], []⟩) ids = .tuple #[.bool false]) (hr1 : ∀ k v ids, r.den (ρ.add ⟨[k, v], [true], [], [], []⟩) ids = .tuple #[.bool true, .int .i64 k, .int .i64 v])
    (hhp : m'.hp = m.hp) (hfit : hpFits m.c m.hp.length m.hp = true) (hc : ∀ k v c, (ρ.add ⟨[k, v], [c], [], [], []⟩).cnt = m'.c)
    (hA : (leftOf es seen).size = 0 → t.holds C (ρ.add ⟨[0, 0], [false], [], [], []⟩) pre (rest.and (HX.blk i (.mapIter (some b) clock seen clock))) L)
    (hB : ∀ e k v, e ∈ (leftOf es seen).toList → e ∈ es.toList → e.key = .int .i64 k → e.val = .int .i64 v → t.holds C (ρ.add ⟨[k, v], [true], [], [], []⟩) pre (rest.and (HX.blk i (.mapIter (some b) clock (seen.push e.born) clock))) L) :
    (Tree.gen (.next xo false) ty ps m (some r) m' t).holds C ρ pre (rest.and (HX.blk i (.mapIter (some b) clock seen clock))) L := by
  intro ids w hp hf
  unfold GenRun
  have hb := hx_ w hf.x.1
  have hi0 : w.heap[i]? = some (.mapIter (some b) clock seen clock) := hf.x.2
  rcases run_next_at (P := C.P) w ty i b clock clock seen es clock hi0 hb hes.1 (Nat.le_refl _) with ⟨h0, hrun⟩ | ⟨e, he, w1, hw1, hrun⟩
  · simp only [execOp, hmo, Sem.run_bind, Sem.run_pure, Result.andThen_ok, hrun]
    refine ⟨⟨[0, 0], [false], [], [], []⟩, ids, _, ?_, List.prefix_refl _, hf.turn (grown_none w) (fun b' e => by cases e) hf.x (fun k hk => .inl hk) hhp hfit (hc _ _ _) oneNil, holds_pre t hp (hA h0)⟩
    simp only [Option.map_some, hr0]
  · simp only [execOp, hmo, Sem.run_bind, Sem.run_pure, Result.andThen_ok, hrun]
    have hee : e ∈ es.toList := by
      have := he; unfold leftOf at this; simp at this; simpa using this.1
    obtain ⟨j, hj⟩ := List.mem_iff_getElem?.1 hee
    obtain ⟨p, _, p2, p3⟩ := entry_at hmm hj
    have hg : w.grownBy (ChangeMaps.setBlock w1 i (.mapIter (some b) clock (seen.push e.born) clock)) (some i) := by
      have : w1.heap[i]? = some (.mapIter (some b) clock seen clock) := by rcases hw1 with rfl | rfl <;> exact hi0
      have g := grown_obj (o' := .mapIter (some b) clock (seen.push e.born) clock) this
      rcases hw1 with rfl | rfl
      · exact g
      · exact ⟨g.os, g.tape, g.output, g.size, g.block⟩
    have hlt : i < w1.heap.size := by
      have : i < w.heap.size := (hf.sep i (.inr rfl)).1
      rcases hw1 with rfl | rfl <;> exact this
    refine ⟨⟨[p.1, p.2], [true], [], [], []⟩, ids, _, ?_, List.prefix_refl _, hf.turn (hx' := rest.and (HX.blk i (.mapIter (some b) clock (seen.push e.born) clock))) hg (fun b' e => by cases e; exact ⟨.inr rfl, .inl hi⟩) ⟨?_, ?_⟩ (fun k hk => .inl hk) hhp hfit (hc _ _ _) oneNil, holds_pre t hp (hB e p.1 p.2 he hee p2 p3)⟩
    · simp only [Option.map_some, hr1, p2, p3]
    · exact rest.loc w _ hf.x.1 fun k hk => hg.block k (hf.sep k (.inl hk)).1 fun q => hdis (by cases q; exact hk)
    · show (w1.heap.setIfInBounds i _)[i]? = _
      simp [hlt]
/-- The round's key and value. -/
theorem node_entry {xo : Operand} {r : SV} (i b since : Nat) (seen : Array Nat) (es : Array MapEntry) (clock : Nat) (e : MapEntry) (k v : Int) (hx_ : ∀ w, hx.X w → w.heap[b]? = some (.map es clock) ∧ w.heap[i]? = some (.mapIter (some b) since (seen.push e.born) clock)) (hes : Stamped es clock) (he : e ∈ es.toList) (hk : e.key = .int .i64 k) (hv : e.val = .int .i64 v)
    (hmo : ∀ ids, envOf ρ ids ps xo = .pointer (some ⟨i, 0, none⟩)) (hr : ∀ ids, r.den (ρ.add ⟨[k, v], [], [], [], []⟩) ids = .tuple #[.int .i64 k, .int .i64 v]) (hhp : m'.hp = m.hp) (hfit : hpFits m.c m.hp.length m.hp = true) (hc : (ρ.add ⟨[k, v], [], [], [], []⟩).cnt = m'.c)
    (h : t.holds C (ρ.add ⟨[k, v], [], [], [], []⟩) pre hx L) : (Tree.gen (.entry xo) ty ps m (some r) m' t).holds C ρ pre hx L := by
  intro ids w hp hf
  unfold GenRun
  obtain ⟨h1, h2⟩ := hx_ w hf.x
  have hrun := run_entry_at (P := C.P) w i b since seen es clock e h2 h1 he hes.2.1
  simp only [execOp, hmo, Sem.run_bind, Sem.run_pure, Result.andThen_ok, hrun]
  refine ⟨⟨[k, v], [], [], [], []⟩, ids, hx, ?_, List.prefix_refl _, hf.turn (grown_none w) (fun b' e => by cases e) hf.x (fun k hk => .inl hk) hhp hfit hc oneNil, holds_pre t hp h⟩
  simp only [Option.map_some, hr, hk, hv]
end
end Go.Eng

/- Pieces of memory: their order; a known block and pieces at the start. No program in sight. -/
namespace Go.Eng
open Go.RowKit Go.Syn Go.MapKept
set_option linter.unusedVariables false
set_option linter.unusedSimpArgs false
theorem HX.ext {a b : HX} (hF : a.F = b.F) (hX : a.X = b.X) : a = b := by
  obtain ⟨F, X, l⟩ := a; obtain ⟨G, Y, l2⟩ := b
  cases hF; cases hX; rfl
theorem HX.and_comm (a b : HX) : a.and b = b.and a := HX.ext (by funext k; exact propext Or.comm) (by funext w; exact propext And.comm)
theorem HX.and_assoc (a b c : HX) : (a.and b).and c = a.and (b.and c) := HX.ext (by funext k; exact propext or_assoc) (by funext w; exact propext _root_.and_assoc)
theorem HX.and_right_comm (a b c : HX) : (a.and b).and c = (a.and c).and b := by rw [HX.and_assoc, HX.and_comm b c, ← HX.and_assoc]
/-- A known block, and pieces beside it. -/
theorem Facts.initx {P : Program} {w : World} {M : Nat → Prop} {R : Ending → World → Prop} {ρ : Env} {c : Cnt} {hx : HX} {b ty : Nat} {cs : List LV} {us : List Value} (hc : ρ.cnt = c) (h1 : ∀ v, v ∈ ρ.v → v.oneCell' = true) (h : Blk w b us ty) (he : cellsDen ρ [b] cs = us)
    (hM : M b) (hX : hx.X w) (hsep : ∀ k, hx.F k → k < w.heap.size ∧ k ≠ b) : Facts ⟨P, w, M, R⟩ ⟨[(ty, cs)], c⟩ ρ [b] hx w := by
  refine ⟨rfl, by simp, fun n t2 cs2 hn => ?_, fun id hid => ?_, Chg.refl _ _, hX, fun k hk => ⟨(hsep k hk).1, by simpa using (hsep k hk).2⟩, ⟨hc, h1⟩⟩
  · cases n with
    | zero =>
      simp only [List.getElem?_cons_zero, Option.some.injEq, Prod.mk.injEq] at hn
      obtain ⟨rfl, rfl⟩ := hn
      rw [he]; exact h
    | succ n => simp at hn
  · simp only [List.mem_singleton] at hid; subst hid; exact .inr hM
theorem Facts.initq {P : Program} {w : World} {R : Ending → World → Prop} {ρ : Env} {c : Cnt} {hx : HX} (hc : ρ.cnt = c) (h1 : ∀ v, v ∈ ρ.v → v.oneCell' = true) (hX : hx.X w) (hsep : ∀ k, hx.F k → k < w.heap.size) : Facts ⟨P, w, fun _ => False, R⟩ ⟨[], c⟩ ρ [] hx w :=
  ⟨rfl, by simp, (fun n t2 cs2 hn => by simp at hn), (fun id hid => by cases hid), Chg.refl _ _, hX, (fun k hk => ⟨hsep k hk, by simp⟩), ⟨hc, h1⟩⟩
theorem Chg.same {b : Nat} {W w : World} (h : Chg (fun x => x = b) W w) (e : w.heap[b]? = W.heap[b]?) : Chg (fun _ => False) W w := ⟨h.os, h.tape, h.output, h.size, fun k hk _ => by
  by_cases q : k = b
  · subst q; exact e
  · exact h.block k hk q⟩
theorem Chg.grown1 {b c : Nat} {W w : World} (h : Chg (fun x => x = b ∨ x = c) W w) (e : w.heap[b]? = W.heap[b]?) : W.grownBy w (some c) := ⟨h.os, h.tape, h.output, h.size, fun k hk hne => by
  by_cases q : k = b
  · subst q; exact e
  · exact h.block k hk (fun r => by
      rcases r with r | r
      · exact q r
      · exact hne (by rw [r]))⟩
section
variable {C : Cfg} {ρ : Env} {pre : List Nat} {hx : HX} {L : Stack} {m m' : Mem} {ty : Nat} {ps : List (Nat × SV)} {t : Tree}
/-- 'append(T(nil), xs...)', xs ints, not empty: a copy in new memory. -/
theorem node_appnil {st st2 e e2 : TypeId} {so xo : Operand} {ac : Go.Call} {r : SV} (hac : ac = { callee := .builtin .append, args := #[so, xo], argTypes := #[st, st2] }) (ht : C.P.underlying st = some (.slice e)) (ht2 : C.P.underlying st2 = some (.slice e2)) (hinfo : (C.P.info? e).map (fun i => (i.zero, i.size, i.bytes)) = some (some (.int .i64 0), 1, 8))
    (a : Option Addr) (cap : Nat) (xs : List Int) (hx_ : ∀ w, hx.X w → Ints w a xs) (h0 : 0 < xs.length) (hb : xs.length * 8 ≤ 140737488351232) (hso : ∀ ids, envOf ρ ids ps so = .slice none 0 0) (hxo : ∀ ids, envOf ρ ids ps xo = .slice a xs.length cap)
    (hr : ∀ i cap' ids, r.den (ρ.add ⟨[], [], [], [xs.length, cap'], [some ⟨i, 0, none⟩]⟩) ids = .slice (some ⟨i, 0, none⟩) xs.length cap') (hhp : m'.hp = m.hp) (hfit : hpFits m.c m.hp.length m.hp = true) (hc : ∀ i cap', (ρ.add ⟨[], [], [], [xs.length, cap'], [some ⟨i, 0, none⟩]⟩).cnt = m'.c)
    (h : ∀ i cap', C.W.heap.size ≤ i → ¬ hx.F i → t.holds C (ρ.add ⟨[], [], [], [xs.length, cap'], [some ⟨i, 0, none⟩]⟩) pre (hx.and (HX.ints (some ⟨i, 0, none⟩) xs)) L) :
    (Tree.gen (.call ac) ty ps m (some r) m' t).holds C ρ pre hx L := by
  intro ids w hp hf
  subst hac
  unfold GenRun
  obtain ⟨i0, hi, hz0, hz1, hz2⟩ := info_parts hinfo
  have I := hx_ w hf.x
  obtain ⟨cap', w', hrun, ho, hbel⟩ := Go.Syn.run_append_nil (P := C.P) w st st2 ty e e2 i0 (.int .i64 0) 1 8 ht ht2 hi hz0 hz1 hz2 rfl (by decide) a xs.length cap h0 (xs.map (Value.int .i64)) (by simp) I.cells (ints_oneCell _ _) (by unfold maxLen; omega) (by omega)
  have I' : Ints w' (some ⟨w.heap.size, 0, none⟩) xs := Ints.of_cells I.len I.fits (ownsRow_cells ho)
  simp only [execOp, resolve, invoke, builtin, hso, hxo, Sem.run_bind, Sem.run_pure, Result.andThen_ok, List.map_toArray, List.map_cons, List.map_nil, hrun]
  have hg : w.grownBy w' none := ⟨hbel.os, hbel.tape, hbel.output, hbel.size, fun k hk _ => hbel.block k hk⟩
  refine ⟨⟨[], [], [], [xs.length, cap'], [some ⟨w.heap.size, 0, none⟩]⟩, ids, hx.and (HX.ints (some ⟨w.heap.size, 0, none⟩) xs), ?_, List.prefix_refl _, hf.turn (hx' := hx.and (HX.ints (some ⟨w.heap.size, 0, none⟩) xs)) hg (fun b e => by cases e) ⟨hx.loc w w' hf.x fun k hk => hbel.block k (hf.sep k hk).1, I'⟩ (fun k hk => ?_) hhp hfit (hc _ _) oneNil, holds_pre t hp (h _ cap' hf.chg.size (fun q => by have := (hf.sep _ q).1; omega))⟩
  · simp only [Option.map_some, hr]
  · rcases hk with hk | ⟨_, rfl⟩
    · exact .inl hk
    · exact .inr ⟨Nat.le_refl _, (I'.at_ h0).2.1⟩
end
theorem con_push (s : Array Nat) (b x : Nat) : (s.push b).contains x = true ↔ s.contains x = true ∨ x = b := by
  simp [Array.mem_push]
theorem bornEq {es : Array MapEntry} {clock : Nat} (h : Stamped es clock) {e f : MapEntry} (he : e ∈ es.toList) (hf : f ∈ es.toList) (hb : f.born = e.born) : f = e := by
  obtain ⟨i, hi⟩ := List.mem_iff_getElem?.1 he
  obtain ⟨j, hj⟩ := List.mem_iff_getElem?.1 hf
  have a1 : (es.toList.map (·.born))[i]? = some e.born := by rw [List.getElem?_map, hi]; rfl
  have a2 : (es.toList.map (·.born))[j]? = some e.born := by rw [List.getElem?_map, hj, ← hb]; rfl
  have hl : i < (es.toList.map (·.born)).length := by
    rcases Nat.lt_or_ge i (es.toList.map (·.born)).length with q | q
    · exact q
    · rw [List.getElem?_eq_none q] at a1; cases a1
  have hij : i = j := (List.getElem?_inj hl h.2.1).1 (a1.trans a2.symm)
  subst hij
  rw [hi] at hj; exact (Option.some.inj hj).symm
theorem ints_own {w : World} {base e n cap : Nat} {a : Option Addr} {xs : List Int} (h : w.ownsRow base e 1 (.slice a n cap) n (xs.map (Value.int .i64))) (hl : xs.length ≤ 9223372036854775807) (hf : ∀ x ∈ xs, I64 x) : Ints w a xs := by
  rcases h.2 with ⟨q, q2⟩ | ⟨g, c2, cur, q, _⟩
  · have h1 := h.1
    rw [q2] at h1
    have : xs = [] := by simpa using h1
    subst this; exact Ints.nil
  · cases q
    exact Ints.of_cells hl hf (ownsRow_cells h)
end Go.Eng
