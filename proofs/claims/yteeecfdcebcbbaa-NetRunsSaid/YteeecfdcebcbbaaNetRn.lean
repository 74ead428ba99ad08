/- NetRuns: pieces and nodes. -/
import Derived.Test.YteeecfdcebcbbaaNetOb
import Derived.Test.YteeecfdcebcbbaaNetFull
namespace Go.Proofs.Yteeecfdcebcbbaa
open Go.ChangeShapes Go.WideShapes Go.ChangeAt Go.RowKit Go.Syn Go.Eng
set_option linter.unusedVariables false
set_option linter.unusedSimpArgs false
theorem spl_one {cur : List Value} {o : Nat} {v : Value} (h : o < cur.length) : spl cur o [v] = cur.set o v := by
  have := set_spl (cur := cur) (r := []) (o := o) (v := v) (by simp; omega)
  rw [← this]
  unfold spl
  rw [List.append_nil]
  simp
/-- A list of packets behind a reference's call. -/
structure RefN (w : World) (ap : Option Addr) (ps ps' : List Pk) (a' : Option Addr) (c' : Nat) (w' : World) : Prop where
  le : ps'.length ≤ c'
  mem : (refHX a' ps').X w'
  sep : ∀ k, (refHX a' ps').F k → (refHX ap ps).F k ∨ w.heap.size ≤ k
  bel : Below w.heap.size w w'
theorem ref_some {w : World} {a : Option Addr} {ps : List Pk} (h : (refHX a ps).X w) (hne : ps ≠ []) : a.isSome = true := by
  have h0 : 0 < (pcells ps).length := by rw [pcells_len]; have := List.length_pos_iff.2 hne; omega
  have := (h.2 h0).1
  cases a with
  | none => simp [PlainA] at this
  | some a => rfl
theorem RefR.toN {w w' : World} {ap a' : Option Addr} {ps ps' : List Pk} {c' : Nat} (h : RefR w ps ps' a' c' w') : RefN w ap ps ps' a' c' w' := ⟨h.le, h.mem, fun k hk => (h.sep k hk).imp_left .inl, h.bel⟩
/-- Bytes that nobody asks about. -/
def HX.jks (ps : List Pk) : HX := ⟨fun k => ∃ p ∈ ps, p.bs ≠ [] ∧ k = Go.Syn.blk p.a, fun w => ∀ p ∈ ps, p.bs ≠ [] → ∃ (g : Nat) (cur : List Value), p.a = some ⟨g, 0, none⟩ ∧ w.heap[g]? = some (.cells cur.toArray 5 (0, 0)) ∧ ∀ i, i < p.bs.length → ∃ x, cur[i]? = some (.int .u8 x), fun w w' h e p hp hne => by
  obtain ⟨g, cur, h1, h2, h3⟩ := h p hp hne
  exact ⟨g, cur, h1, by rw [e g ⟨p, hp, hne, by rw [h1]; rfl⟩]; exact h2, h3⟩⟩
theorem obs_jks {ps : List Pk} {w : World} (h : (HX.obs ps).X w) : (HX.jks ps).X w := fun p hp hne => by
  obtain ⟨g, cur, h1, h2, h3⟩ := h p hp hne
  refine ⟨g, cur, h1, h2, fun i hi => ?_⟩
  have : (cur.take p.bs.length)[i]? = (bcells p.bs)[i]? := by rw [h3]
  rw [List.getElem?_take, if_pos hi] at this
  refine ⟨p.bs[i], ?_⟩
  rw [this]; exact bcells_get (List.getElem?_eq_getElem hi)
section
variable {C : Cfg} {ρ : Env} {pre : List Nat} {hx rest : HX} {L : Stack} {m m' : Mem} {args : List SV} {r : SV} {t : Tree} {ty : Nat} {ps : List (Nat × SV)} {qs : List Pk}
/-- A byte of them is read. -/
theorem node_ldj {l : LV} {cs : List LV} (q : Pk) (i : Nat) (hq : q ∈ qs) (hi : i < q.bs.length) (hl : ∀ ids, l.den ρ ids = .pointer (some (((q.a.getD ⟨0, 0, none⟩).add (i * 1)).add 0))) (hcs : ∀ x ids, cellsDen (ρ.add ⟨[x], [], [], [], []⟩) ids cs = [.int .u8 x]) (hc : ∀ x ids w, Facts C m ρ ids (rest.and (HX.jks qs)) w → EnvOk (ρ.add ⟨[x], [], [], [], []⟩) m'.c)
    (h : ∀ x, t.holds C (ρ.add ⟨[x], [], [], [], []⟩) pre (rest.and (HX.jks qs)) L) : (Tree.ld true l cs m m' t).holds C ρ pre (rest.and (HX.jks qs)) L := by
  intro ids w hp hf
  obtain ⟨g, cur, h1, h2, h3⟩ := hf.x.2 q hq (fun e => by rw [e] at hi; simp at hi)
  obtain ⟨x, hx⟩ := h3 i hi
  refine ⟨⟨[x], [], [], [], []⟩, ?_, hc x ids w hf, holds_pre t hp (h x)⟩
  rw [hl, hcs, h1]
  refine ⟨_, rfl, fun e => e, fun j u hj => ?_⟩
  cases j with
  | zero =>
    simp only [List.getElem?_cons_zero, Option.some.injEq] at hj
    subst hj
    rw [Option.getD_some, Go.WideShapes.add_plain, Go.WideShapes.add_plain, Go.WideShapes.add_plain, show (0 + i * 1 + 0 + 0) = 0 + i by omega, cells_blk h2, Nat.zero_add]
    exact hx
  | succ j => simp at hj
/-- A byte of them is written. -/
theorem node_storej {et : Nat} {xa xv : Operand} (q : Pk) (i : Nat) (y : Int) (hq : q ∈ qs) (hi : i < q.bs.length) (hsize : (C.P.info? et).map (·.size) = some 1) (hxa : ∀ ids, envOf ρ ids ps xa = .pointer (some (((q.a.getD ⟨0, 0, none⟩).add (i * 1)).add 0))) (hxv : ∀ ids, envOf ρ ids ps xv = .int .u8 y)
    (hdis : ∀ k, (HX.jks qs).F k → ¬ rest.F k) (hM : ∀ k, (HX.jks qs).F k → C.W.heap.size ≤ k ∨ C.M k) (hhp : m'.hp = m.hp) (hfit : hpFits m.c m.hp.length m.hp = true) (hc : ρ.cnt = m'.c)
    (h : t.holds C ρ pre (rest.and (HX.jks qs)) L) : (Tree.gen (.store et xa xv) ty ps m none m' t).holds C ρ pre (rest.and (HX.jks qs)) L := by
  intro ids w hp hf
  unfold GenRun
  have hne : q.bs ≠ [] := fun e => by rw [e] at hi; simp at hi
  obtain ⟨g, cur, h1, h2, h3⟩ := hf.x.2 q hq hne
  have hcl : i < cur.length := by
    obtain ⟨x, hx⟩ := h3 i hi
    rcases Nat.lt_or_ge i cur.length with z | z
    · exact z
    · rw [List.getElem?_eq_none z] at hx; cases hx
  obtain ⟨w', hrun, hg', hgr⟩ := run_store_blk (P := C.P) (o := i) (vs := [.int .u8 y]) h2 (by simp; omega) (by simp [Value.oneCell'])
  rw [spl_one hcl] at hg'
  have hadr : ((q.a.getD ⟨0, 0, none⟩).add (i * 1)).add 0 = ⟨g, i, none⟩ := by
    rw [h1, Option.getD_some, Go.WideShapes.add_plain, Go.WideShapes.add_plain]
    show (⟨_, _, _⟩ : Addr) = _
    congr 1; omega
  rw [hadr] at hxa
  obtain ⟨i0, hi0, hi2⟩ := Option.map_eq_some_iff.1 hsize
  have hrun2 : (Instr.storeAt et (.pointer (some ⟨g, i, none⟩)) (.int .u8 y)).run C.P w = .ok () w' := by
    have hv : (Value.int .u8 y).cells = #[.int .u8 y] := rfl
    simp [Instr.storeAt, Instr.sureAddr, storeVar, sizeOf, typeInfo, hi0, hi2, hv, hrun]
  have hgF : (HX.jks qs).F g := ⟨q, hq, hne, by rw [h1]; rfl⟩
  simp only [execOp, hxa, hxv, Sem.run_bind, Sem.run_pure, Result.andThen_ok, hrun2]
  refine ⟨Vals.nil, ids, rest.and (HX.jks qs), rfl, List.prefix_refl _, hf.turn hgr (fun b hb => by cases hb; exact ⟨.inr hgF, hM _ hgF⟩) ⟨rest.loc w w' hf.x.1 fun k hk => hgr.block k (hf.sep k (.inl hk)).1 (fun z => hdis g hgF (by cases z; exact hk)), fun p hp2 hne2 => ?_⟩ (fun k hk => .inl hk) hhp hfit (by rw [Env.add_nil]; exact hc) oneNil, ?_⟩
  · obtain ⟨g2, cur2, k1, k2, k3⟩ := hf.x.2 p hp2 hne2
    by_cases e : g2 = g
    · subst e
      rw [h2] at k2
      have : cur2 = cur := by
        have := Option.some.inj k2
        simp only [Obj.cells.injEq] at this
        have h9 := congrArg Array.toList this.1
        simpa using h9.symm
      subst this
      refine ⟨g2, cur2.set i (.int .u8 y), k1, hg', fun j hj => ?_⟩
      rw [List.getElem?_set]
      split
      · rename_i e; subst e; exact ⟨y, rfl⟩
      · exact k3 j hj
    · exact ⟨g2, cur2, k1, by rw [hgr.block g2 (blk_lt k2) (fun z => e (by cases z; rfl))]; exact k2, k3⟩
  · rw [Env.add_nil]; exact holds_pre t hp h
/-- Three conditions with one way out of each. -/
theorem br3 {b1 b2 b3 : BE} {A K : Tree} (hK : K.holds C ρ pre hx L) (hA : b1.den ρ = true → b2.den ρ = true → b3.den ρ = true → A.holds C ρ pre hx L) : (Tree.br b1 (Tree.br b2 (Tree.br b3 A K) K) K).holds C ρ pre hx L :=
  ⟨fun h1 => ⟨fun h2 => ⟨fun h3 => hA h1 h2 h3, fun _ => hK⟩, fun _ => hK⟩, fun _ => hK⟩
variable {ap : Option Addr} {lps : List Pk}
/-- A call of the reference that hands back a list. -/
theorem node_ref {f : Nat} {V : Option Addr → Nat → Nat → Value} (is : List Int) (bl : List Bool) (Q : Option Addr → Nat → List Pk → Prop) (hcall : ∀ ids w, pre <+: ids → Facts C m ρ ids (rest.and (refHX ap lps)) w → Calls C.P f (args.map (SV.den ρ ids)).toArray w fun e w' => ∃ a' c' ps', Q a' c' ps' ∧ e = .returned (V a' c' ps'.length) ∧ RefN w ap lps ps' a' c' w')
    (hr : ∀ a' c' n ids, r.den (ρ.add ⟨is, bl, [], [n, c'], [a']⟩) ids = V a' c' n) (hhp : m'.hp = m.hp) (hfit : hpFits m.c m.hp.length m.hp = true) (hc : ∀ a' c' n, (ρ.add ⟨is, bl, [], [n, c'], [a']⟩).cnt = m'.c)
    (h : ∀ a' c' ps', Q a' c' ps' → ps'.length ≤ c' → (ps' ≠ [] → a'.isSome = true) → (∀ k, (refHX a' ps').F k → (refHX ap lps).F k ∨ (C.W.heap.size ≤ k ∧ ¬ rest.F k)) → t.holds C (ρ.add ⟨is, bl, [], [ps'.length, c'], [a']⟩) pre (rest.and (refHX a' ps')) L) :
    (Tree.call f args m r m' t).holds C ρ pre (rest.and (refHX ap lps)) L := by
  intro ids w hp hf
  refine (hcall ids w hp hf).mono ?_
  rintro e w' ⟨a', c', ps', hQ, rfl, hR⟩
  have hbel := hR.bel
  have hg : w.grownBy w' none := ⟨hbel.os, hbel.tape, hbel.output, hbel.size, fun k hk _ => hbel.block k hk⟩
  have hF := hR.sep
  refine ⟨_, ids, rest.and (refHX a' ps'), by rw [← hr a' c' ps'.length ids], List.prefix_refl _, hf.turn (hx' := rest.and (refHX a' ps')) hg (fun b e => by cases e) ⟨rest.loc w w' hf.x.1 fun k hk => hbel.block k (hf.sep k (.inl hk)).1, hR.mem⟩ (fun k hk => ?_) hhp hfit (hc _ _ _) oneNil, holds_pre t hp (h a' c' ps' hQ hR.le (fun hne => ref_some hR.mem hne) fun k hk => (hF k hk).imp_right fun q => ⟨Nat.le_trans hf.chg.size q, fun z => by have := (hf.sep k (.inl z)).1; omega⟩)⟩
  rcases hk with hk | hk
  · exact .inl (.inl hk)
  · rcases hF k hk with q | q
    · exact .inl (.inr q)
    · exact .inr ⟨q, ref_sep hR.mem k hk⟩
variable {a : Option Addr} {cap : Nat} {ns : List Pk}
/-- The net's list, as bytes in blocks of their own. -/
theorem node_list {cs : List LV} (n : Nat) (hP : C.P = Try.prog) (hn : m.hp[n]? = some (49, cs)) (hcs : ∀ ids, cellsDen ρ ids cs = [.slice a ns.length cap]) (hap : Apart a cap ns) (hl : ns.length ≤ 1000000) (hb : bsOk ns) (hargs : ∀ ids, (args.map (SV.den ρ ids)).toArray = #[.pointer (some ⟨idAt ids n, 0, none⟩)])
    (hr : ∀ a' c' k ids, r.den (ρ.add ⟨[], [], [], [k, c'], [a']⟩) ids = .slice a' k c') (hhp : m'.hp = m.hp) (hfit : hpFits m.c m.hp.length m.hp = true) (hc : ∀ a' c' k, (ρ.add ⟨[], [], [], [k, c'], [a']⟩).cnt = m'.c)
    (h : ∀ a' c' qs, qs.map Pk.d = ns.map Pk.d → ApartO a' c' qs → (∀ q ∈ qs, q.bs ≠ [] → q.a.isSome = true) → (qs ≠ [] → a'.isSome = true) → (∀ k, (lsHX a' c' qs).F k → C.W.heap.size ≤ k ∧ ¬ (rest.and (netHX a cap ns)).F k) → t.holds C (ρ.add ⟨[], [], [], [qs.length, c'], [a']⟩) pre ((rest.and (netHX a cap ns)).and (lsHX a' c' qs)) L) :
    (Tree.call 19 args m r m' t).holds C ρ pre (rest.and (netHX a cap ns)) L := by
  intro ids w hp hf
  rw [hP, hargs]
  refine (list_own (idAt ids n) a cap ns w (net_at n hf hn hcs hap) hl hb).mono ?_
  rintro e w' ⟨a', c', qs, hD, rfl, hX, hap', hF, hbel⟩
  have hg : w.grownBy w' none := ⟨hbel.os, hbel.tape, hbel.output, hbel.size, fun k hk _ => hbel.block k hk⟩
  refine ⟨_, ids, (rest.and (netHX a cap ns)).and (lsHX a' c' qs), by rw [← hr a' c' qs.length ids], List.prefix_refl _, hf.turn (hx' := (rest.and (netHX a cap ns)).and (lsHX a' c' qs)) hg (fun b e => by cases e) ⟨(rest.and (netHX a cap ns)).loc w w' hf.x fun k hk => hbel.block k (hf.sep k hk).1, hX⟩ (fun k hk => hk.imp_right fun q => hF k q) hhp hfit (hc _ _ _) oneNil, holds_pre t hp (h a' c' qs hD hap' (fun q hq hne => by obtain ⟨g, cur, z, _⟩ := hX.1 q hq hne; rw [z]; rfl) (fun hne => by
    have h0 : 0 < qs.length := List.length_pos_iff.2 hne
    have := rw_le hX.2
    obtain ⟨g, _, z, _⟩ := rw_open hX.2 (by omega)
    rw [z]; rfl) fun k hk => ⟨Nat.le_trans hf.chg.size (hF k hk).1, fun z => by have := (hf.sep k z).1; have := (hF k hk).1; omega⟩)⟩
end
/-- A step of a script. -/
structure NOp where
  k : Int
  n : Int
  f : Int
  t : Int
  a : Option Addr
  c : Nat
  bs : List Int
def NOp.dat (s : NOp) : Dat := .parts [.int .i64 s.k, .int .i64 s.n, .parts [.int .i64 s.f, .int .i64 s.t, .sl s.a s.bs.length s.c (s.bs.map (Dat.int .u8))]]
theorem NOp.len (s : NOp) : s.dat.cells.length = 5 := rfl
structure NOp.ok (w : World) (s : NOp) : Prop where
  n : I64 s.n
  cells : Cells w s.a (bcells s.bs)
  len : s.bs.length ≤ 140737488355328
theorem cellsAll_bytes : ∀ (bs : List Int), Dat.cellsAll (bs.map (Dat.int .u8)) = bcells bs
  | [] => rfl
  | x :: r => by
    have := cellsAll_bytes r
    rw [List.map_cons, bcells, List.map_cons, ← bcells, ← this]; rfl
end Go.Proofs.Yteeecfdcebcbbaa
