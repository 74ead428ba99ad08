/- Pieces in number and pieces told of by what lies in them; calls that change a piece; steps over maps as plain lists. No program in sight. -/
import Derived.Test.YtadgaefmoobcoaaEng33
namespace Go.Eng
open Go.RowKit Go.Syn Go.MapKept
set_option linter.unusedVariables false
set_option linter.unusedSimpArgs false
/-! ### Pieces -/
def HX.all (l : List HX) : HX := ⟨fun k => ∃ h ∈ l, h.F k, fun w => ∀ h ∈ l, h.X w, fun w w' hX e h hh => h.loc w w' (hX h hh) fun k hk => e k ⟨h, hh, hk⟩⟩
/-- A piece inside F of which Q is true. -/
def HX.obj (F : Nat → Prop) (Q : HX → Prop) : HX := ⟨F, fun w => ∃ h, Q h ∧ h.X w ∧ ∀ k, h.F k → F k, fun w w' hX e => by
  obtain ⟨h, q, x, s⟩ := hX
  exact ⟨h, q, h.loc w w' x fun k hk => e k (s k hk), s⟩⟩
theorem HX.all_get {l : List HX} {h : HX} {w : World} (hh : h ∈ l) (hX : (HX.all l).X w) : h.X w := hX h hh
theorem HX.all_F {l : List HX} {h : HX} {k : Nat} (hh : h ∈ l) (hk : h.F k) : (HX.all l).F k := ⟨h, hh, hk⟩
section
variable {C : Cfg} {L : Stack}
/-- Less may be told of memory. -/
theorem Facts.sub {m : Mem} {ρ : Env} {ids : List Nat} {hx hx' : HX} {w : World} (hX : ∀ w, hx.X w → hx'.X w) (hF : ∀ k, hx'.F k → hx.F k) (hf : Facts C m ρ ids hx w) : Facts C m ρ ids hx' w :=
  ⟨hf.len, hf.nod, hf.blk, hf.own, hf.chg, hX w hf.x, fun b hb => hf.sep b (hF b hb), hf.cnt⟩
theorem holds_sub : ∀ (t : Tree) {ρ : Env} {pre : List Nat} {hx hx' : HX} {L : Stack}, (∀ w, hx.X w → hx'.X w) → (∀ k, hx'.F k → hx.F k) → t.holds C ρ pre hx' L → t.holds C ρ pre hx L
  | .done _ _, _, _, _, _, _, hX, hF, h => fun ids w hi hf => h ids w hi (hf.sub hX hF)
  | .fail _ _, _, _, _, _, _, _, _, h => h
  | .br _ t f, _, _, _, _, _, hX, hF, h => ⟨fun hb => holds_sub t hX hF (h.1 hb), fun hb => holds_sub f hX hF (h.2 hb)⟩
  | .need _ t, _, _, _, _, _, hX, hF, h => ⟨h.1, fun hb => holds_sub t hX hF (h.2 hb)⟩
  | .call .., _, _, _, _, _, hX, hF, h => fun ids w hi hf => h ids w hi (hf.sub hX hF)
  | .gen .., _, _, _, _, _, hX, hF, h => fun ids w hi hf => h ids w hi (hf.sub hX hF)
  | .ld true _ _ _ _ t, _, _, _, _, _, hX, hF, h => fun ids w hi hf => by
    obtain ⟨vs, h1, h2, h3⟩ := h ids w hi (hf.sub hX hF)
    exact ⟨vs, h1, h2, holds_sub t hX hF h3⟩
  | .ld false _ _ _ _ t, _, _, _, _, _, hX, hF, h => by
    obtain ⟨vs, h1, h2, h3⟩ := h
    exact ⟨vs, h1, h2, holds_sub t hX hF h3⟩
  | .ldq _ _ _ _ t, _, _, _, _, _, hX, hF, h => fun ids w hi hf => by
    obtain ⟨vs, ⟨ad, e1, e2, e3⟩, h2, h3⟩ := h ids w hi (hf.sub hX hF)
    exact ⟨vs, ⟨ad, e1, fun q => e2 fun r => q (hF _ r), e3⟩, h2, holds_sub t hX hF h3⟩
  | .loop _ _ _ _ t, _, _, _, _, _, hX, hF, h => by
    obtain ⟨I, h1, h2⟩ := h
    exact ⟨I, fun ids w hi hf => h1 ids w hi (hf.sub hX hF), h2⟩
  | .again .., _, _, _, _, _, hX, hF, h => fun ids w hi hf => h ids w hi (hf.sub hX hF)
  | .join _ _ _ a b, _, _, _, _, _, hX, hF, h => by
    obtain ⟨I, h1, h2⟩ := h
    exact ⟨I, holds_sub a hX hF h1, h2⟩
  | .par a b, _, _, _, _, _, hX, hF, h => ⟨holds_sub a hX hF h.1, holds_sub b hX hF h.2⟩
end
section
variable {C : Cfg} {ρ : Env} {pre : List Nat} {hx rest h0 : HX} {L : Stack} {m m' : Mem} {args : List SV} {r : SV} {t : Tree} {ids : List Nat} {w w' : World} {vs : Vals}
/-- Blocks of the pieces change, or are made. -/
theorem Facts.turnF {F : Nat → Prop} {hx' : HX} (hf : Facts C m ρ ids hx w) (hg : Chg F w w') (hF0 : ∀ b, F b → hx.F b ∧ (C.W.heap.size ≤ b ∨ C.M b)) (hX : hx'.X w') (hF : ∀ b, hx'.F b → (hx.F b ∨ w.heap.size ≤ b) ∧ b < w'.heap.size)
    (hhp : m'.hp = m.hp) (hfit : hpFits m.c m.hp.length m.hp = true) (hc : (ρ.add vs).cnt = m'.c) (h1 : ∀ v, v ∈ vs.v → v.oneCell' = true) : Facts C m' (ρ.add vs) ids hx' w' := by
  refine ⟨by rw [hf.len, hhp], hf.nod, fun k t2 cs2 hk => ?_, hf.own, ?_, hX, ?_, envUp' hf hc h1⟩
  · rw [hhp] at hk
    have hk2 : k < m.hp.length := by
      rcases Nat.lt_or_ge k m.hp.length with q | q
      · exact q
      · rw [List.getElem?_eq_none q] at hk; cases hk
    have hmem := idAt_mem (ids := ids) (n := k) (hf.len ▸ hk2)
    rw [hg.block _ (hf.id_lt hmem) (fun e2 => (hf.sep _ (hF0 _ e2).1).2 hmem)]
    rw [hf.blk k t2 cs2 hk, cellsDen_add hf.cnt.cnt (List.prefix_refl _) hf.len (List.all_eq_true.1 hfit _ (List.mem_of_getElem? hk))]
  · refine ⟨hg.os.trans hf.chg.os, hg.tape.trans hf.chg.tape, hg.output.trans hf.chg.output, Nat.le_trans hf.chg.size hg.size, fun k hk hM => ?_⟩
    rw [hg.block k (Nat.lt_of_lt_of_le hk hf.chg.size) (fun e => ?_)]
    · exact hf.chg.block k hk hM
    · rcases (hF0 _ e).2 with g | g
      · omega
      · exact hM g
  · intro b hb
    obtain ⟨q, q2⟩ := hF b hb
    refine ⟨q2, ?_⟩
    rcases q with q | q
    · exact (hf.sep b q).2
    · intro hm
      have := hf.id_lt hm; omega
/-- A call that changes the last piece. -/
theorem node_mut {f : Nat} (AS : List Nat → Array Value) (Q : Vals → HX → Prop) (hargs : ∀ ids, (args.map (SV.den ρ ids)).toArray = AS ids)
    (hcall : ∀ ids w, pre <+: ids → Facts C m ρ ids (rest.and h0) w → Calls C.P f (AS ids) w (fun e w' => ∃ vs h', Q vs h' ∧ e = .returned (r.den (ρ.add vs) ids) ∧ h'.X w' ∧ (∀ k, h'.F k → (h0.F k ∨ w.heap.size ≤ k) ∧ k < w'.heap.size) ∧ Chg h0.F w w'))
    (hdis : ∀ k, h0.F k → ¬ rest.F k ∧ (C.W.heap.size ≤ k ∨ C.M k)) (hhp : m'.hp = m.hp) (hfit : hpFits m.c m.hp.length m.hp = true) (hc : ∀ vs h', Q vs h' → (ρ.add vs).cnt = m'.c ∧ ∀ v, v ∈ vs.v → v.oneCell' = true)
    (h : ∀ vs h', Q vs h' → (∀ k, h'.F k → ¬ rest.F k ∧ (C.W.heap.size ≤ k ∨ C.M k)) → t.holds C (ρ.add vs) pre (rest.and h') L) : (Tree.call f args m r m' t).holds C ρ pre (rest.and h0) L := by
  intro ids w hp hf
  rw [hargs]
  refine (hcall ids w hp hf).mono ?_
  rintro e w' ⟨vs, h', hQ, rfl, hX, hge, hch⟩
  refine ⟨vs, ids, rest.and h', rfl, List.prefix_refl _, hf.turnF (hx' := rest.and h') hch (fun b hb => ⟨.inr hb, (hdis b hb).2⟩) ⟨rest.loc w w' hf.x.1 fun k hk => hch.block k (hf.sep k (.inl hk)).1 fun q => (hdis k q).1 hk, hX⟩ (fun k hk => ?_) hhp hfit (hc _ _ hQ).1 (hc _ _ hQ).2, holds_pre t hp (h vs h' hQ fun k hk => ?_)⟩
  · rcases hk with hk | hk
    · exact ⟨.inl (.inl hk), Nat.lt_of_lt_of_le (hf.sep k (.inl hk)).1 hch.size⟩
    · exact ⟨(hge k hk).1.elim (fun q => .inl (.inr q)) .inr, (hge k hk).2⟩
  · rcases (hge k hk).1 with q | q
    · exact hdis k q
    · exact ⟨fun hF => by have := (hf.sep _ (.inl hF)).1; omega, .inl (Nat.le_trans hf.chg.size q)⟩
end
/-! ### Maps under way -/
def kv (e : MapEntry) : Value × Value := (e.key, e.val)
theorem er_filter {α : Type} (f : α → Int) : ∀ {l : List α} {j : Nat} {x : α}, (l.map f).Nodup → l[j]? = some x → l.eraseIdx j = l.filter fun y => decide (f y ≠ f x)
  | [], j, x, _, h => by simp at h
  | p :: l, 0, x, hn, h => by
    simp only [List.getElem?_cons_zero, Option.some.injEq] at h
    subst h
    simp only [List.map_cons, List.nodup_cons] at hn
    rw [List.filter_cons, if_neg (by simp)]
    show l = _
    have h2 : ∀ y ∈ l, f y ≠ f p := fun y hy e => hn.1 (List.mem_map.2 ⟨y, hy, e⟩)
    exact (List.filter_eq_self.2 fun y hy => decide_eq_true (h2 y hy)).symm
  | p :: l, j + 1, x, hn, h => by
    simp only [List.map_cons, List.nodup_cons] at hn
    have h1 : l[j]? = some x := by simpa using h
    have hne : f p ≠ f x := fun e => hn.1 (List.mem_map.2 ⟨x, List.mem_of_getElem? h1, e.symm⟩)
    rw [List.filter_cons, if_pos (decide_eq_true hne)]
    show p :: l.eraseIdx j = _
    rw [er_filter f hn.2 h1]
def keyI (e : MapEntry) : Int := match e.key with | .int _ n => n | _ => 0
theorem kv_mem {es : List MapEntry} {m : List (Int × Value)} (h : es.map kv = m.map vent) {e : MapEntry} (he : e ∈ es) : ∃ p, p ∈ m ∧ e.key = .int .i64 p.1 ∧ e.val = p.2 := by
  have : kv e ∈ es.map kv := List.mem_map.2 ⟨e, he, rfl⟩
  rw [h] at this
  obtain ⟨p, hp, e2⟩ := List.mem_map.1 this
  exact ⟨p, hp, (congrArg Prod.fst e2).symm, (congrArg Prod.snd e2).symm⟩
theorem kv_filter {es : List MapEntry} {m : List (Int × Value)} (k : Int) (h : es.map kv = m.map vent) : (es.filter fun e => decide (keyI e ≠ k)).map kv = (vdel m k).map vent := by
  induction es generalizing m with
  | nil =>
    cases m with
    | nil => rfl
    | cons p m => simp at h
  | cons e es ih =>
    cases m with
    | nil => simp at h
    | cons p m =>
      simp only [List.map_cons, List.cons.injEq] at h
      have hk : keyI e = p.1 := by
        have : e.key = .int .i64 p.1 := congrArg Prod.fst h.1
        unfold keyI; rw [this]
      unfold vdel
      rw [List.filter_cons, List.filter_cons, hk]
      split
      · rw [List.map_cons, List.map_cons, h.1]; congr 1; exact ih h.2
      · exact ih h.2
theorem keyI_map {es : List MapEntry} {m : List (Int × Value)} (h : es.map kv = m.map vent) : es.map keyI = m.map (·.1) := by
  have h1 : es.map keyI = (es.map kv).map fun p => match p.1 with | .int _ n => n | _ => 0 := by rw [List.map_map]; rfl
  rw [h1, h, List.map_map]; rfl
structure Rg (w : World) (i b : Nat) (m left : List (Int × Value)) (last : Option (Int × Value)) : Prop where
  ex : ∃ es clock seen since c0, w.heap[b]? = some (.map es clock) ∧ Stamped es clock ∧ es.toList.map kv = m.map vent ∧ w.heap[i]? = some (.mapIter (some b) since seen c0) ∧ (∀ x ∈ es.toList, x.born < since) ∧ since ≤ c0 ∧ since ≤ clock ∧
    (es.toList.filter fun e => !seen.contains e.born).map kv = left.map vent ∧ ∀ p, last = some p → c0 = clock ∧ ∃ (s0 : Array Nat) (e : MapEntry), e ∈ es.toList ∧ seen = s0.push e.born ∧ kv e = vent p
/-- A map that is stepped over: what it holds, what is still to come, what came last. -/
def HX.rng (i b : Nat) (m left : List (Int × Value)) (last : Option (Int × Value)) : HX := ⟨fun k => k = i ∨ k = b, fun w => Rg w i b m left last, fun w w' h e => by
  obtain ⟨es, clock, seen, since, c0, h1, h2, h3, h4, h5⟩ := h
  exact ⟨es, clock, seen, since, c0, (e b (.inr rfl)).trans h1, h2, h3, (e i (.inl rfl)).trans h4, h5⟩⟩
theorem Rg.map {w : World} {i b : Nat} {m left : List (Int × Value)} {last : Option (Int × Value)} (h : Rg w i b m left last) : VMap w b m := by
  obtain ⟨es, clock, seen, since, c0, h1, h2, h3, _⟩ := h
  exact ⟨es, clock, h1, h2, h3⟩
theorem Rg.nodup {w : World} {i b : Nat} {m left : List (Int × Value)} {last : Option (Int × Value)} (h : Rg w i b m left last) : (left.map (·.1)).Nodup ∧ ∀ p ∈ left, p ∈ m := by
  obtain ⟨es, clock, seen, since, c0, h1, h2, h3, h4, h5, h6, h7, h8, _⟩ := h
  have hv := vnodup_of h2 h3
  have e1 := keyI_map h3
  have e2 := keyI_map h8
  refine ⟨?_, fun p hp => ?_⟩
  · rw [← e2]
    rw [← e1] at hv
    exact (List.Sublist.map _ List.filter_sublist).nodup hv
  · have : vent p ∈ left.map vent := List.mem_map.2 ⟨p, hp, rfl⟩
    rw [← h8] at this
    obtain ⟨e, he, e3⟩ := List.mem_map.1 this
    have he2 : e ∈ es.toList := (List.mem_filter.1 he).1
    have : kv e ∈ m.map vent := by rw [← h3]; exact List.mem_map.2 ⟨e, he2, rfl⟩
    obtain ⟨q, hq, e4⟩ := List.mem_map.1 this
    rw [← vent_inj (e4.trans e3)]; exact hq
section
variable {C : Cfg} {ρ : Env} {pre : List Nat} {hx rest : HX} {L : Stack} {m m' : Mem} {ty : Nat} {ps : List (Nat × SV)} {t : Tree}
/-- 'map[int]T{}'. -/
theorem node_vmake {mt : TypeId} {r : SV} (hr : ∀ v ids, r.den (ρ.add ⟨[], [], [v], [], []⟩) ids = v) (hhp : m'.hp = m.hp) (hfit : hpFits m.c m.hp.length m.hp = true) (hc : ∀ v, (ρ.add ⟨[], [], [v], [], []⟩).cnt = m'.c)
    (h : ∀ b, C.W.heap.size ≤ b → ¬ hx.F b → t.holds C (ρ.add ⟨[], [], [.map (some b)], [], []⟩) pre (hx.and (HX.vmap b [])) L) : (Tree.gen (.makeMap mt none) ty ps m (some r) m' t).holds C ρ pre hx L := by
  intro ids w hp hf
  unfold GenRun
  have hrun := run_makeMap (P := C.P) mt w
  simp only [execOp, Option.map_none, Sem.run_bind, Sem.run_pure, Result.andThen_ok, hrun]
  have hg : w.grownBy (w.alloc (.map #[] 0)) none := ⟨rfl, rfl, rfl, by show w.heap.size ≤ (w.heap.push _).size; simp, fun k hk _ => heap_alloc_old w _ hk⟩
  refine ⟨⟨[], [], [.map (some w.heap.size)], [], []⟩, ids, hx.and (HX.vmap w.heap.size []), ?_, List.prefix_refl _, hf.turn hg (fun b' e => by cases e) ⟨hx.loc _ _ hf.x fun b hb => heap_alloc_old w _ (hf.sep b hb).1, VMap.new w⟩ (fun k hk => ?_) hhp hfit (hc _) (fun v hv => ?_), holds_pre t hp (h _ hf.chg.size (fun q => by have := (hf.sep _ q).1; omega))⟩
  · simp only [Option.map_some, hr]
  · rcases hk with hk | hk
    · exact .inl hk
    · exact .inr ⟨Nat.le_of_eq hk.symm, by rw [show k = w.heap.size from hk]; show w.heap.size < (w.heap.push _).size; simp⟩
  · simp only [List.mem_singleton] at hv; subst hv; rfl
/-- 'range m', m the last piece. -/
theorem node_vrange {mt kt et : TypeId} {xo : Operand} {r : SV} (b : Nat) (mm : List (Int × Value)) (hmo : ∀ ids, envOf ρ ids ps xo = .map (some b)) (ht : C.P.underlying mt = some (.map kt et))
    (hr : ∀ v ids, r.den (ρ.add ⟨[], [], [v], [], []⟩) ids = v) (hhp : m'.hp = m.hp) (hfit : hpFits m.c m.hp.length m.hp = true) (hc : ∀ v, (ρ.add ⟨[], [], [v], [], []⟩).cnt = m'.c)
    (h : ∀ i, C.W.heap.size ≤ i → ¬ (rest.and (HX.vmap b mm)).F i → t.holds C (ρ.add ⟨[], [], [.pointer (some ⟨i, 0, none⟩)], [], []⟩) pre (rest.and (HX.rng i b mm mm none)) L) : (Tree.gen (.range mt xo) ty ps m (some r) m' t).holds C ρ pre (rest.and (HX.vmap b mm)) L := by
  intro ids w hp hf
  unfold GenRun
  obtain ⟨es, clock, h1, h2, h3⟩ := (show VMap w b mm from hf.x.2)
  have hrun := run_range_map (P := C.P) w mt kt et b es clock ht h1
  simp only [execOp, hmo, Sem.run_bind, Sem.run_pure, Result.andThen_ok, hrun]
  have hg : w.grownBy (w.alloc (.mapIter (some b) clock #[] clock)) none := ⟨rfl, rfl, rfl, by show w.heap.size ≤ (w.heap.push _).size; simp, fun k hk _ => heap_alloc_old w _ hk⟩
  have hold : ∀ k, (rest.and (HX.vmap b mm)).F k → (w.alloc (.mapIter (some b) clock #[] clock)).heap[k]? = w.heap[k]? := fun k hk => heap_alloc_old w _ (hf.sep k hk).1
  refine ⟨⟨[], [], [.pointer (some ⟨w.heap.size, 0, none⟩)], [], []⟩, ids, _, ?_, List.prefix_refl _, hf.turn (hx' := rest.and (HX.rng w.heap.size b mm mm none)) hg (fun b' e => by cases e) ⟨rest.loc _ _ hf.x.1 fun k hk => hold k (.inl hk), ?_⟩ (fun k hk => ?_) hhp hfit (hc _) (fun v hv => ?_), holds_pre t hp (h w.heap.size hf.chg.size (fun q => by have := (hf.sep _ q).1; omega))⟩
  · simp only [Option.map_some, hr]
  · refine ⟨es, clock, #[], clock, clock, (hold b (.inr rfl)).trans h1, h2, h3, heap_alloc_new _ _, h2.1, Nat.le_refl _, Nat.le_refl _, ?_, fun p hp => by cases hp⟩
    rw [List.filter_eq_self.2 (fun e _ => by simp)]; exact h3
  · rcases hk with hk | hk | hk
    · exact .inl (.inl hk)
    · exact .inr ⟨Nat.le_of_eq hk.symm, by rw [show k = w.heap.size from hk]; show w.heap.size < (w.heap.push _).size; simp⟩
    · exact .inl (.inr hk)
  · simp only [List.mem_singleton] at hv; subst hv; rfl
theorem rg_ne {w : World} {i b : Nat} {m left : List (Int × Value)} {last : Option (Int × Value)} (h : Rg w i b m left last) : i ≠ b := by
  obtain ⟨es, clock, seen, since, c0, h1, h2, h3, h4, _⟩ := h
  rintro rfl
  rw [h1] at h4; cases h4
/-- A step: it is over, or one that is left comes out, whichever. -/
theorem node_vnext {xo : Operand} {r : SV} (i b : Nat) (mm left : List (Int × Value)) (last : Option (Int × Value)) (hi : C.W.heap.size ≤ i) (hdis : ¬ rest.F i) (hmo : ∀ ids, envOf ρ ids ps xo = .pointer (some ⟨i, 0, none⟩)) (hhp : m'.hp = m.hp) (hfit : hpFits m.c m.hp.length m.hp = true)
    (hA : left = [] → ∃ vs : Vals, (∀ ids, r.den (ρ.add vs) ids = .tuple #[.bool false]) ∧ (ρ.add vs).cnt = m'.c ∧ (∀ v, v ∈ vs.v → v.oneCell' = true) ∧ t.holds C (ρ.add vs) pre (rest.and (HX.rng i b mm [] last)) L)
    (hB : ∀ k v, (k, v) ∈ left → (k, v) ∈ mm → ∃ vs : Vals, (∀ ids, r.den (ρ.add vs) ids = .tuple #[.bool true, .int .i64 k, v]) ∧ (ρ.add vs).cnt = m'.c ∧ (∀ v, v ∈ vs.v → v.oneCell' = true) ∧ t.holds C (ρ.add vs) pre (rest.and (HX.rng i b mm (vdel left k) (some (k, v)))) L) :
    (Tree.gen (.next xo false) ty ps m (some r) m' t).holds C ρ pre (rest.and (HX.rng i b mm left last)) L := by
  intro ids w hp hf
  unfold GenRun
  have hR : Rg w i b mm left last := hf.x.2
  have hne := rg_ne hR
  have hnd := hR.nodup
  obtain ⟨es, clock, seen, since, c0, h1, h2, h3, h4, h5, h6, h7, h8, h9⟩ := hR
  rcases run_next_at (P := C.P) w ty i b since c0 seen es clock h4 h1 h5 h6 with ⟨z0, hrun⟩ | ⟨e, he, w1, hw1, hrun⟩
  · simp only [execOp, hmo, Sem.run_bind, Sem.run_pure, Result.andThen_ok, hrun]
    have hl : left = [] := by
      have z1 : (es.toList.filter fun e => !seen.contains e.born) = [] := by
        have : (leftOf es seen).toList = es.toList.filter fun e => !seen.contains e.born := by unfold leftOf; rw [Array.toList_filter]
        rw [← this]; exact List.eq_nil_of_length_eq_zero (by simpa using z0)
      rw [z1] at h8
      exact List.map_eq_nil_iff.1 h8.symm
    obtain ⟨vs, v1, v2, v3, v4⟩ := hA hl
    refine ⟨vs, ids, _, ?_, List.prefix_refl _, hf.turn (grown_none w) (fun b' e => by cases e) hf.x (fun k hk => .inl hk) hhp hfit v2 v3, holds_pre t hp (by rw [hl]; exact v4)⟩
    simp only [Option.map_some, v1]
  · simp only [execOp, hmo, Sem.run_bind, Sem.run_pure, Result.andThen_ok, hrun]
    have he0 : e ∈ es.toList.filter fun e => !seen.contains e.born := by unfold leftOf at he; rwa [Array.toList_filter] at he
    have hee : e ∈ es.toList := (List.mem_filter.1 he0).1
    obtain ⟨p, hp1, hp2, hp3⟩ := kv_mem h8 he0
    have hg : w.grownBy (ChangeMaps.setBlock w1 i (.mapIter (some b) since (seen.push e.born) clock)) (some i) := by
      have : w1.heap[i]? = some (.mapIter (some b) since seen c0) := by rcases hw1 with rfl | rfl <;> exact h4
      have g := vgrown_obj (o' := .mapIter (some b) since (seen.push e.born) clock) this
      rcases hw1 with rfl | rfl
      · exact g
      · exact ⟨g.os, g.tape, g.output, g.size, g.block⟩
    have hlt : i < w1.heap.size := by
      have : i < w.heap.size := (hf.sep i (.inr (.inl rfl))).1
      rcases hw1 with rfl | rfl <;> exact this
    obtain ⟨vs, v1, v2, v3, v4⟩ := hB p.1 p.2 hp1 (hnd.2 p hp1)
    refine ⟨vs, ids, _, ?_, List.prefix_refl _, hf.turn (hx' := rest.and (HX.rng i b mm (vdel left p.1) (some (p.1, p.2)))) hg (fun b' e => by cases e; exact ⟨.inr (.inl rfl), .inl hi⟩) ⟨?_, ?_⟩ (fun k hk => .inl hk) hhp hfit v2 v3, holds_pre t hp v4⟩
    · simp only [Option.map_some, v1, hp2, hp3]
    · exact rest.loc w _ hf.x.1 fun k hk => hg.block k (hf.sep k (.inl hk)).1 fun q => hdis (by cases q; exact hk)
    · refine ⟨es, clock, seen.push e.born, since, clock, (hg.block b (hf.sep b (.inr (.inr rfl))).1 fun q => hne (Option.some.inj q).symm).trans h1, h2, h3, ?_, h5, h7, h7, ?_, ?_⟩
      · show (w1.heap.setIfInBounds i _)[i]? = _
        simp [hlt]
      · have hf2 : (es.toList.filter fun x => !(seen.push e.born).contains x.born) = (es.toList.filter fun x => !seen.contains x.born).filter fun x => decide (keyI x ≠ p.1) := by
          rw [List.filter_filter]
          refine List.filter_congr fun x hx => ?_
          have hke : keyI e = p.1 := by unfold keyI; rw [hp2]
          by_cases hxe : x = e
          · subst hxe
            rw [(con_push seen x.born x.born).2 (.inr rfl), decide_eq_false (by rw [hke]; simp)]; simp
          · have hb2 : x.born ≠ e.born := fun q => hxe (bornEq h2 hee hx q)
            have hk2 : keyI x ≠ p.1 := fun q => by
              have hn2 : (es.toList.map keyI).Nodup := by rw [keyI_map h3]; exact vnodup_of h2 h3
              obtain ⟨j1, j1h⟩ := List.mem_iff_getElem?.1 hx
              obtain ⟨j2, j2h⟩ := List.mem_iff_getElem?.1 hee
              have a1 : (es.toList.map keyI)[j1]? = some p.1 := by rw [List.getElem?_map, j1h]; exact congrArg some q
              have a2 : (es.toList.map keyI)[j2]? = some p.1 := by rw [List.getElem?_map, j2h]; exact congrArg some hke
              have := nodup_idx hn2 a1 a2
              subst this
              rw [j1h] at j2h; exact hxe (Option.some.inj j2h)
            rw [decide_eq_true hk2, Bool.true_and]
            have : (seen.push e.born).contains x.born = seen.contains x.born := by
              rw [Bool.eq_iff_iff, con_push]
              exact ⟨fun q => q.elim id fun q => absurd q hb2, .inl⟩
            rw [this]
        rw [hf2]
        exact kv_filter _ h8
      · rintro q q2
        obtain rfl : (p.1, p.2) = q := Option.some.inj q2
        exact ⟨rfl, seen, e, hee, rfl, by unfold kv vent; rw [hp2, hp3]⟩
/-- The round's key and value. -/
theorem node_ventry {xo : Operand} {r : SV} (vs : Vals) (i b : Nat) (mm left : List (Int × Value)) (k : Int) (v : Value) (hmo : ∀ ids, envOf ρ ids ps xo = .pointer (some ⟨i, 0, none⟩)) (hr : ∀ ids, r.den (ρ.add vs) ids = .tuple #[.int .i64 k, v]) (hhp : m'.hp = m.hp) (hfit : hpFits m.c m.hp.length m.hp = true) (hc : (ρ.add vs).cnt = m'.c) (h1 : ∀ v, v ∈ vs.v → v.oneCell' = true)
    (h : t.holds C (ρ.add vs) pre (rest.and (HX.rng i b mm left (some (k, v)))) L) : (Tree.gen (.entry xo) ty ps m (some r) m' t).holds C ρ pre (rest.and (HX.rng i b mm left (some (k, v)))) L := by
  refine node_gpure (V := .tuple #[.int .i64 k, v]) vs (fun ids w hp hf => ?_) hr hhp hfit hc h1 h
  obtain ⟨es, clock, seen, since, c0, g1, g2, g3, g4, g5, g6, g7, g8, g9⟩ := (show Rg w i b mm left (some (k, v)) from hf.x.2)
  obtain ⟨rfl, s0, e, he, rfl, hke⟩ := g9 _ rfl
  have hrun := run_entry_at (P := C.P) w i b since s0 es c0 e g4 g1 he g2.2.1
  have e1 : e.key = .int .i64 k := congrArg Prod.fst hke
  have e2 : e.val = v := congrArg Prod.snd hke
  simp only [execOp, hmo, Sem.run_bind, Sem.run_pure, Result.andThen_ok, hrun, e1, e2]
/-- 'delete(m, k)' on the way. -/
theorem node_vdelr {mt kt kt2 et : TypeId} {xo ko : Operand} {ac : Go.Call} {r : SV} (hac : ac = { callee := .builtin .delete, args := #[xo, ko], argTypes := #[mt, kt2] }) (i b : Nat) (mm left : List (Int × Value)) (last : Option (Int × Value)) (k : Int) (he : kt2 = kt) (hown : C.W.heap.size ≤ b ∨ C.M b) (hdis : ¬ rest.F b) (hmo : ∀ ids, envOf ρ ids ps xo = .map (some b)) (hko : ∀ ids, envOf ρ ids ps ko = .int .i64 k)
    (ht : C.P.underlying mt = some (.map kt et)) (hk : C.P.underlying kt = some (.int .i64)) (hr : ∀ ids, r.den (ρ.add Vals.nil) ids = .tuple #[]) (hhp : m'.hp = m.hp) (hfit : hpFits m.c m.hp.length m.hp = true) (hc : (ρ.add Vals.nil).cnt = m'.c)
    (h : t.holds C (ρ.add Vals.nil) pre (rest.and (HX.rng i b (vdel mm k) (vdel left k) none)) L) : (Tree.gen (.call ac) ty ps m (some r) m' t).holds C ρ pre (rest.and (HX.rng i b mm left last)) L := by
  intro ids w hp hf
  subst hac
  subst he
  unfold GenRun
  have hR : Rg w i b mm left last := hf.x.2
  have hne := rg_ne hR
  have hV := hR.map
  obtain ⟨es, clock, seen, since, c0, h1, h2, h3, h4, h5, h6, h7, h8, h9⟩ := hR
  obtain ⟨w', es', hrun, e1, e2, e3, e4⟩ : ∃ w' es', (Builtin.delete_ #[mt, kt2] ty #[.map (some b), .int .i64 k]).run C.P w = .ok (.tuple #[]) w' ∧ w'.heap[b]? = some (.map es' clock) ∧ Stamped es' clock ∧ es'.toList = (es.toList.filter fun e => decide (keyI e ≠ k)) ∧ w.grownBy w' (some b) := by
    have hlt := hV.lt
    obtain ⟨es0, clock0, q1, q2, q3, f | f⟩ := hV.find k
    · rw [h1] at q1; cases q1
      obtain ⟨f1, f2, f3⟩ := f
      have q := run_findKey (P := C.P) (w := w) hk f1
      refine ⟨{ w with heap := w.heap.setIfInBounds b (.map es clock) }, es, ?_, by simp [hlt], h2, ?_, vgrown_obj h1⟩
      · simp [Builtin.delete_, run_underlying ht, MapKept.run_getObj_map h1, run_checkKey (P := C.P) (w := w) (k := .int .i64 k) hk rfl _ 9999, q, Result.andThen, run_setObj_map _ h1]
      · have h6 : ∀ e ∈ es.toList, keyI e ≠ k := fun e he e5 => by
          obtain ⟨p, _, p2, _⟩ := kv_mem h3 he
          refine f3 e he ?_
          rw [p2]
          unfold keyI at e5; rw [p2] at e5
          rw [show p.1 = k from e5]
        exact (List.filter_eq_self.2 fun e he => decide_eq_true (h6 e he)).symm
    · rw [h1] at q1; cases q1
      obtain ⟨j, e, v0, f1, f2, f3, f4, f5, f6⟩ := f
      have q := run_findKey (P := C.P) (w := w) hk f1
      refine ⟨{ w with heap := w.heap.setIfInBounds b (.map (es.eraseIdxIfInBounds j) clock) }, es.eraseIdxIfInBounds j, ?_, by simp [hlt], stamped_erase h2 j, ?_, vgrown_obj h1⟩
      · simp [Builtin.delete_, run_underlying ht, MapKept.run_getObj_map h1, run_checkKey (P := C.P) (w := w) (k := .int .i64 k) hk rfl _ 9999, q, Result.andThen, run_setObj_map _ h1]
      · have hsub : (es.eraseIdxIfInBounds j).toList = es.toList.eraseIdx j := by
          unfold Array.eraseIdxIfInBounds
          split
          · simp only [Array.toList_eraseIdx]
          · rename_i hj
            rw [List.eraseIdx_of_length_le (by simpa using hj)]
        have hke : keyI e = k := by unfold keyI; rw [f3]
        rw [hsub, er_filter keyI (by rw [keyI_map h3]; exact vnodup_of h2 h3) f2, hke]
  simp only [execOp, resolve, invoke, builtin, hmo, hko, Sem.run_bind, Sem.run_pure, Result.andThen_ok, List.map_toArray, List.map_cons, List.map_nil, hrun]
  refine ⟨Vals.nil, ids, rest.and (HX.rng i b (vdel mm k) (vdel left k) none), by simp only [Option.map_some, hr], List.prefix_refl _, hf.turn e4 (fun b' e => by cases e; exact ⟨.inr (.inr rfl), hown⟩) ⟨rest.loc w w' hf.x.1 fun q hq => e4.block q (hf.sep q (.inl hq)).1 (fun e => hdis (by cases e; exact hq)), ?_⟩ (fun k hk => .inl hk) hhp hfit hc oneNil, holds_pre t hp h⟩
  refine ⟨es', clock, seen, since, c0, e1, e2, by rw [e3]; exact kv_filter k h3, (e4.block i (hf.sep i (.inr (.inl rfl))).1 fun q => hne (Option.some.inj q)).trans h4, fun x hx => h5 x (by rw [e3] at hx; exact (List.mem_filter.1 hx).1), h6, h7, ?_, fun p hp => by cases hp⟩
  rw [e3, List.filter_filter]
  have := kv_filter k h8
  rw [List.filter_filter] at this
  rw [← this]
  congr 1
  refine List.filter_congr fun x _ => ?_
  rw [Bool.and_comm]
end
end Go.Eng
