/- Memory beside the blocks that are known: pieces that compose, and operations on them. No program in sight. -/
import Derived.Test.YticacnankpaohaaEng17
import Derived.Test.YticacnankpaohaaIMap
namespace Go.Eng
open Go.RowKit Go.Syn
set_option linter.unusedVariables false
set_option linter.unusedSimpArgs false
/-! ### Pieces -/
def HX.and (a b : HX) : HX := ⟨fun k => a.F k ∨ b.F k, fun w => a.X w ∧ b.X w, fun w w' h e => ⟨a.loc w w' h.1 fun k hk => e k (.inl hk), b.loc w w' h.2 fun k hk => e k (.inr hk)⟩⟩
theorem Ints.loc {w w' : World} {a : Option Addr} {xs : List Int} (h : Ints w a xs) (e : xs ≠ [] → w'.heap[blk a]? = w.heap[blk a]?) : Ints w' a xs := by
  refine ⟨h.len, h.fits, fun h0 => ?_⟩
  obtain ⟨ha, hb, hc⟩ := h.at_ h0
  have e2 := e (fun q => by rw [q] at h0; simp at h0)
  refine ⟨ha, ?_, fun i hi => by rw [World.cell?_of_block (w := w) e2]; exact hc i hi⟩
  rcases Nat.lt_or_ge (blk a) w'.heap.size with q | q
  · exact q
  · rw [Array.getElem?_eq_none q, Array.getElem?_eq_getElem hb] at e2; cases e2
/-- A row of ints that is read. -/
def HX.ints (a : Option Addr) (xs : List Int) : HX := ⟨fun k => xs ≠ [] ∧ k = blk a, fun w => Ints w a xs, fun w w' h e => Ints.loc h fun hx => e _ ⟨hx, rfl⟩⟩
/-- A map. -/
def HX.imap (b : Nat) (m : List (Int × Int)) : HX := ⟨fun k => k = b, fun w => IMap w b m, fun w w' h e => h.loc (e b rfl)⟩
/-- A block that is known whole. -/
def HX.blk (b : Nat) (o : Obj) : HX := ⟨fun k => k = b, fun w => w.heap[b]? = some o, fun w w' h e => by rw [e b rfl]; exact h⟩
/-- A row of the call's own. -/
def HX.own (base e : Nat) (a : Option Addr) (n cap : Nat) (xs : List Value) : HX :=
  ⟨fun k => a.map (·.block) = some k, fun w => w.ownsRow base e 1 (.slice a n cap) n xs, fun w w' h eq => by
    refine ⟨h.1, ?_⟩
    rcases h.2 with q | ⟨g, c, cur, hv, hb, hg, rest⟩
    · exact .inl q
    · refine .inr ⟨g, c, cur, hv, hb, ?_, rest⟩
      cases hv
      rw [eq g rfl]; exact hg⟩
def HX.prop (p : Prop) : HX := ⟨fun _ => False, fun _ => p, fun _ _ h _ => h⟩

section
variable {C : Cfg} {ρ : Env} {pre : List Nat} {hx hx' : HX} {L : Stack} {m m' : Mem} {ids : List Nat} {w w' : World} {vs : Vals}
/-- Blocks beside the known ones change, or are made. -/
theorem envUp' {c' : Cnt} (hf : Facts C m ρ ids hx w) (hc : (ρ.add vs).cnt = c') (h1 : ∀ v, v ∈ vs.v → v.oneCell' = true) : EnvOk (ρ.add vs) c' := by
  refine ⟨hc, fun v hv => ?_⟩
  simp only [Env.add, List.mem_append] at hv
  rcases hv with hv | hv
  · exact hf.cnt.one v hv
  · exact h1 v hv
theorem Facts.turn {row : Option Nat} (hf : Facts C m ρ ids hx w) (hg : w.grownBy w' row) (hrow : ∀ b, row = some b → hx.F b ∧ (C.W.heap.size ≤ b ∨ C.M b)) (hX : hx'.X w') (hF : ∀ b, hx'.F b → hx.F b ∨ (w.heap.size ≤ b ∧ b < w'.heap.size))
    (hhp : m'.hp = m.hp) (hfit : hpFits m.c m.hp.length m.hp = true) (hc : (ρ.add vs).cnt = m'.c) (h1 : ∀ v, v ∈ vs.v → v.oneCell' = true) : Facts C m' (ρ.add vs) ids hx' w' := by
  refine ⟨by rw [hf.len, hhp], hf.nod, fun k t2 cs2 hk => ?_, hf.own, ?_, hX, ?_, envUp' hf hc h1⟩
  · rw [hhp] at hk
    have hk2 : k < m.hp.length := by
      rcases Nat.lt_or_ge k m.hp.length with q | q
      · exact q
      · rw [List.getElem?_eq_none q] at hk; cases hk
    have hmem := idAt_mem (ids := ids) (n := k) (hf.len ▸ hk2)
    rw [hg.block _ (hf.id_lt hmem) (fun e2 => (hf.sep _ (hrow _ e2.symm).1).2 hmem)]
    rw [hf.blk k t2 cs2 hk, cellsDen_add hf.cnt.cnt (List.prefix_refl _) hf.len (List.all_eq_true.1 hfit _ (List.mem_of_getElem? hk))]
  · refine ⟨hg.os.trans hf.chg.os, hg.tape.trans hf.chg.tape, hg.output.trans hf.chg.output, Nat.le_trans hf.chg.size hg.size, fun k hk hM => ?_⟩
    rw [hg.block k (Nat.lt_of_lt_of_le hk hf.chg.size) (fun e => ?_)]
    · exact hf.chg.block k hk hM
    · rcases (hrow _ e.symm).2 with g | g
      · omega
      · exact hM g
  · intro b hb
    rcases hF b hb with h | ⟨h2, h3⟩
    · exact ⟨Nat.lt_of_lt_of_le (hf.sep b h).1 hg.size, (hf.sep b h).2⟩
    · exact ⟨h3, fun hm => by have := hf.id_lt hm; omega⟩
theorem grown_none (w : World) : w.grownBy w none := World.grownBy.refl _ _
variable {ty : Nat} {ps : List (Nat × SV)} {t : Tree}
/-- 'v, ok := m[k]' over ints. -/
theorem node_lookup {mt kt et : TypeId} {xo ko : Operand} {r : SV} (b : Nat) (mm : List (Int × Int)) (k : Int) (hx_ : ∀ w, hx.X w → IMap w b mm) (hmo : ∀ ids, envOf ρ ids ps xo = .map (some b)) (hko : ∀ ids, envOf ρ ids ps ko = .int .i64 k)
    (ht : C.P.underlying mt = some (.map kt et)) (hk : C.P.underlying kt = some (.int .i64)) (hz : ∀ w, (zeroValue et).run C.P w = .ok (.int .i64 0) w)
    (hr : ∀ ids, r.den (ρ.add ⟨[(lk mm k).getD 0], [(lk mm k).isSome], [], [], []⟩) ids = .tuple #[.int .i64 ((lk mm k).getD 0), .bool (lk mm k).isSome]) (hhp : m'.hp = m.hp) (hfit : hpFits m.c m.hp.length m.hp = true) (hc : (ρ.add ⟨[(lk mm k).getD 0], [(lk mm k).isSome], [], [], []⟩).cnt = m'.c)
    (h : t.holds C (ρ.add ⟨[(lk mm k).getD 0], [(lk mm k).isSome], [], [], []⟩) pre hx L) : (Tree.gen (.lookup mt xo ko true) ty ps m (some r) m' t).holds C ρ pre hx L := by
  intro ids w hp hf
  unfold GenRun
  have hrun := (hx_ w hf.x).lookup (P := C.P) (t := mt) k ht hk (hz w)
  simp only [execOp, hmo, hko, Sem.run_bind, Sem.run_pure, Result.andThen_ok, hrun]
  refine ⟨_, ids, hx, ?_, List.prefix_refl _, hf.turn (grown_none w) (fun b hb => by cases hb) hf.x (fun b hb => .inl hb) hhp hfit hc oneNil, holds_pre t hp h⟩
  simp only [Option.map_some, hr]
/-- 'm[k] = v' over ints. -/
theorem node_update {mt kt et : TypeId} {xo ko vo : Operand} (hx' : HX) (b : Nat) (mm : List (Int × Int)) (k v : Int) (hx_ : ∀ w, hx.X w → IMap w b mm) (hb : hx.F b) (hown : ∀ w, hx.X w → C.W.heap.size ≤ b ∨ C.M b) (hmo : ∀ ids, envOf ρ ids ps xo = .map (some b)) (hko : ∀ ids, envOf ρ ids ps ko = .int .i64 k) (hvo : ∀ ids, envOf ρ ids ps vo = .int .i64 v)
    (ht : C.P.underlying mt = some (.map kt et)) (hk : C.P.underlying kt = some (.int .i64)) (hX : ∀ w w', hx.X w → IMap w' b (putm mm k v) → w.grownBy w' (some b) → hx'.X w') (hF : ∀ k, hx'.F k → hx.F k) (hhp : m'.hp = m.hp) (hfit : hpFits m.c m.hp.length m.hp = true) (hc : ρ.cnt = m'.c)
    (h : t.holds C ρ pre hx' L) : (Tree.gen (.mapUpdate mt xo ko vo) ty ps m none m' t).holds C ρ pre hx L := by
  intro ids w hp hf
  unfold GenRun
  obtain ⟨w', hrun, h1, h2⟩ := (hx_ w hf.x).update (P := C.P) (t := mt) k v ht hk
  simp only [execOp, hmo, hko, hvo, Sem.run_bind, Sem.run_pure, Result.andThen_ok, hrun]
  refine ⟨Vals.nil, ids, hx', rfl, List.prefix_refl _, hf.turn h2 (fun b' e => by cases e; exact ⟨hb, hown w hf.x⟩) (hX w w' hf.x h1 h2) (fun k hk => .inl (hF k hk)) hhp hfit (by rw [Env.add_nil]; exact hc) oneNil, ?_⟩
  rw [Env.add_nil]; exact holds_pre t hp h
/-- 'clear(m)'. -/
theorem node_clear {mt kt et : TypeId} {xo : Operand} {ac : Go.Call} (hx' : HX) (b : Nat) (mm : List (Int × Int)) (hac : ac = { callee := .builtin .clear, args := #[xo], argTypes := #[mt] }) (hx_ : ∀ w, hx.X w → IMap w b mm) (hb : hx.F b) (hown : ∀ w, hx.X w → C.W.heap.size ≤ b ∨ C.M b) (hmo : ∀ ids, envOf ρ ids ps xo = .map (some b))
    (ht : C.P.underlying mt = some (.map kt et)) (hX : ∀ w w', hx.X w → IMap w' b [] → w.grownBy w' (some b) → hx'.X w') (hF : ∀ k, hx'.F k → hx.F k) (hhp : m'.hp = m.hp) (hfit : hpFits m.c m.hp.length m.hp = true) (hc : ρ.cnt = m'.c)
    (h : t.holds C ρ pre hx' L) : (Tree.gen (.call ac) ty ps m (some (.tup [])) m' t).holds C ρ pre hx L := by
  intro ids w hp hf
  subst hac
  unfold GenRun
  obtain ⟨w', hrun, h1, h2⟩ := (hx_ w hf.x).clear (P := C.P) (t := mt) ty ht
  simp only [execOp, resolve, invoke, builtin, hmo, Sem.run_bind, Sem.run_pure, Result.andThen_ok, List.map_toArray, List.map_cons, List.map_nil, hrun]
  refine ⟨Vals.nil, ids, hx', rfl, List.prefix_refl _, hf.turn h2 (fun b' e => by cases e; exact ⟨hb, hown w hf.x⟩) (hX w w' hf.x h1 h2) (fun k hk => .inl (hF k hk)) hhp hfit (by rw [Env.add_nil]; exact hc) oneNil, ?_⟩
  rw [Env.add_nil]; exact holds_pre t hp h
/-- 'map[int]int{}'. -/
theorem node_makeMap {mt : TypeId} {r : SV} (hr : ∀ v ids, r.den (ρ.add ⟨[], [], [v], [], []⟩) ids = v) (hhp : m'.hp = m.hp) (hfit : hpFits m.c m.hp.length m.hp = true) (hc : ∀ v, (ρ.add ⟨[], [], [v], [], []⟩).cnt = m'.c)
    (h : ∀ b, C.W.heap.size ≤ b → ¬ hx.F b → t.holds C (ρ.add ⟨[], [], [.map (some b)], [], []⟩) pre (hx.and (HX.imap b [])) L) : (Tree.gen (.makeMap mt none) ty ps m (some r) m' t).holds C ρ pre hx L := by
  intro ids w hp hf
  unfold GenRun
  have hrun := run_makeMap (P := C.P) mt w
  simp only [execOp, Option.map_none, Sem.run_bind, Sem.run_pure, Result.andThen_ok, hrun]
  have hg : w.grownBy (w.alloc (.map #[] 0)) none := ⟨rfl, rfl, rfl, by show w.heap.size ≤ (w.heap.push _).size; simp, fun k hk _ => heap_alloc_old w _ hk⟩
  refine ⟨⟨[], [], [.map (some w.heap.size)], [], []⟩, ids, hx.and (HX.imap w.heap.size []), ?_, List.prefix_refl _, hf.turn hg (fun b' e => by cases e) ⟨hx.loc _ _ hf.x fun b hb => heap_alloc_old w _ (hf.sep b hb).1, IMap.new w⟩ (fun k hk => ?_) hhp hfit (hc _) (fun v hv => ?_), holds_pre t hp (h _ hf.chg.size (fun q => by have := (hf.sep _ q).1; omega))⟩
  · simp only [Option.map_some, hr]
  · rcases hk with hk | hk
    · exact .inl hk
    · exact .inr ⟨Nat.le_of_eq hk.symm, by rw [show k = w.heap.size from hk]; show w.heap.size < (w.heap.push _).size; simp⟩
  · simp only [List.mem_singleton] at hv; subst hv; rfl
end
end Go.Eng
