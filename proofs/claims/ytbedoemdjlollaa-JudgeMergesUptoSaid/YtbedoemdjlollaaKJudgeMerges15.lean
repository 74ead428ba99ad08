/- Part 15 of the texts of a proof about the given program: what the statement's proof needs of them. -/
import Derived.Lib.AppendZerosOnto
import Derived.Lib.Overlaps
import Derived.KernelRfl
import Derived.Test.YtbedoemdjlollaaKJudgeMerges14
namespace Go.Eng
open Go.RowKit Go.Syn
set_option linter.unusedVariables false
section
variable {C : Cfg} {ρ : Env} {pre : List Nat} {rest hx : HX} {L : Stack} {m m' : Mem} {ty : Nat} {ps : List (Nat × SV)} {t : Tree}
theorem node_cap {st e : TypeId} {xo : Operand} {ac : Go.Call} {r : SV} (hac : ac = { callee := .builtin .cap, args := #[xo], argTypes := #[st] }) (ht : C.P.underlying st = some (.slice e)) (a : Option Addr) (n cap : Nat) (hxo : ∀ ids, envOf ρ ids ps xo = .slice a n cap)
    (hr : ∀ ids, r.den (ρ.add ⟨[(cap : Int)], [], [], [], []⟩) ids = .int .i64 (cap : Int)) (hhp : m'.hp = m.hp) (hfit : hpFits m.c m.hp.length m.hp = true) (hc : (ρ.add ⟨[(cap : Int)], [], [], [], []⟩).cnt = m'.c)
    (h : t.holds C (ρ.add ⟨[(cap : Int)], [], [], [], []⟩) pre hx L) : (Tree.gen (.call ac) ty ps m (some r) m' t).holds C ρ pre hx L := by
  subst hac
  refine node_gpure (V := .int .i64 (cap : Int)) _ (fun ids w hp hf => ?_) hr hhp hfit hc oneNil h
  simp [execOp, resolve, invoke, builtin, hxo, Builtin.cap_, run_underlying ht, goInt]
theorem sliA_in {g l cap sz : Nat} (h : cap ≠ l) : sliA (some (⟨g, 0, none⟩ : Addr)) l cap sz = some ⟨g, l * sz, none⟩ := by
  unfold sliA
  rw [if_neg h]
  show some ((⟨g, 0, none⟩ : Addr).add (l * sz)) = _
  rw [Go.WideShapes.add_plain, Nat.zero_add]
theorem spl_nil (cur : List Value) (o : Nat) : spl cur o [] = cur := by
  unfold spl
  rw [List.length_nil, Nat.add_zero, List.append_nil, List.take_append_drop]
theorem spl_take {cur us : List Value} {o k : Nat} (h : o + us.length ≤ k) (h2 : k ≤ cur.length) : (spl cur o us).take k = spl (cur.take k) o us := by
  unfold spl
  rw [List.take_take, Nat.min_eq_left (by omega), List.take_append, List.take_of_length_le (by rw [List.length_append, List.length_take]; omega), List.drop_take]
  congr 2
  rw [List.length_append, List.length_take]; omega
theorem node_copy {dt st2 e : TypeId} {do_ so : Operand} {ac : Go.Call} {r : SV} {z : Value} {sz bytes : Nat} (hac : ac = { callee := .builtin .copy, args := #[do_, so], argTypes := #[dt, st2] }) (ht : C.P.underlying dt = some (.slice e)) (hinfo : (C.P.info? e).map (fun i => (i.zero, i.size, i.bytes)) = some (some z, sz, bytes)) (hsz : 0 < sz)
    (a : Option Addr) (n cap l : Nat) (xs : List Value) (d : Option Addr) (dl dc : Nat) (sa : List Nat → Option Addr) (n2 c2 k : Nat) (ys : List Value)
    (hd : ∀ ids, envOf ρ ids ps do_ = .slice d dl dc) (hs : ∀ ids, pre <+: ids → envOf ρ ids ps so = .slice (sa ids) n2 c2) (hda : cap ≠ 0 → a.isSome = true → d = sliA a l cap sz) (hk : Nat.min n2 dl = k) (hlen : ys.length = k * sz) (hfit2 : l + k ≤ n) (h1 : ∀ u ∈ ys, u.oneCell' = true)
    (hys : ∀ ids w, pre <+: ids → Facts C m ρ ids (rest.and (HX.rw sz e a n cap xs)) w → Cells w (sa ids) ys)
    (hdis : ∀ q, cap ≠ 0 → abk a = some q → ¬ rest.F q) (hM : ∀ q, cap ≠ 0 → abk a = some q → C.W.heap.size ≤ q ∨ C.M q)
    (hr : ∀ ids, r.den (ρ.add ⟨[(k : Int)], [], [], [], []⟩) ids = .int .i64 (k : Int)) (hhp : m'.hp = m.hp) (hfit : hpFits m.c m.hp.length m.hp = true) (hc : (ρ.add ⟨[(k : Int)], [], [], [], []⟩).cnt = m'.c)
    (h : t.holds C (ρ.add ⟨[(k : Int)], [], [], [], []⟩) pre (rest.and (HX.rw sz e a n cap (spl xs (l * sz) ys))) L) :
    (Tree.gen (.call ac) ty ps m (some r) m' t).holds C ρ pre (rest.and (HX.rw sz e a n cap xs)) L := by
  intro ids w hp hf
  subst hac
  unfold GenRun
  obtain ⟨i0, hi, hz0, hz1, hz2⟩ := info_parts hinfo
  have hrow : (HX.rw sz e a n cap xs).X w := hf.x.2
  have hcs := hys ids w hp hf
  rcases Nat.eq_zero_or_pos k with h0 | h0
  · subst h0
    have hye : ys = [] := List.eq_nil_of_length_eq_zero (by rw [hlen]; simp)
    subst hye
    have hrun : (Builtin.copy_ #[dt, st2] ty #[.slice d dl dc, .slice (sa ids) n2 c2]).run C.P w = .ok (.int .i64 0) w := by
      cases d <;> cases sa ids <;> simp [Builtin.copy_, run_underlying ht, sizeOf, typeInfo, hi, Builtin.lenOf, Builtin.firstCells, storeCells, loadCells, loadCellsFrom, hk, goInt]
    simp only [execOp, resolve, invoke, builtin, hd, hs ids hp, Sem.run_bind, Sem.run_pure, Result.andThen_ok, List.map_toArray, List.map_cons, List.map_nil, hrun]
    refine ⟨_, ids, rest.and (HX.rw sz e a n cap xs), by simp only [Option.map_some, hr]; rfl, List.prefix_refl _, hf.turn (grown_none w) (fun b e => by cases e) hf.x (fun k hk => .inl hk) hhp hfit hc oneNil, holds_pre t hp (by rw [spl_nil] at h; exact h)⟩
  have hle := rw_le hrow
  have hc0 : cap ≠ 0 := by omega
  obtain ⟨g, cur, rfl, hlt, hg, hnc, hcm, hcl, htk⟩ := rw_open hrow hc0
  have hmul : n * sz ≤ cap * sz := Nat.mul_le_mul_right _ hnc
  have hmul2 : l * sz + k * sz ≤ n * sz := by rw [← Nat.add_mul]; exact Nat.mul_le_mul_right _ hfit2
  have hpos : 0 < ys.length := by rw [hlen]; exact Nat.mul_pos h0 hsz
  obtain ⟨ha, hab, hcc⟩ := hcs hpos
  obtain ⟨ad, had⟩ : ∃ ad, sa ids = some ad := by
    cases hs2 : sa ids with
    | none => rw [hs2] at ha; simp [PlainA] at ha
    | some ad => exact ⟨ad, rfl⟩
  rw [had] at ha hcc
  have hnews : ∀ j u, ys[j]? = some u → w.cell? (ad.add j) = some u := fun j u hj => by
    have e : ad = ⟨blk (some ad), ofs (some ad), none⟩ := Option.some.inj ha
    rw [e, Go.WideShapes.add_plain]; exact hcc j u hj
  have hdd := hda hc0 rfl
  rw [sliA_in (by omega)] at hdd
  obtain ⟨w', hst, hg', hgr⟩ := run_store_blk (P := C.P) (o := l * sz) (vs := ys) hg (by rw [hlen, hcl]; omega) h1
  have hf1 := run_firstCells_some (P := C.P) w sz k ad n2 c2 ys hlen hnews
  have hrun : (Builtin.copy_ #[dt, st2] ty #[.slice d dl dc, .slice (sa ids) n2 c2]).run C.P w = .ok (.int .i64 (k : Int)) w' := by
    rw [hdd, had]
    simp [Builtin.copy_, run_underlying ht, sizeOf, typeInfo, hi, hz1, Builtin.lenOf, hk, hf1, hst, goInt]
  simp only [execOp, resolve, invoke, builtin, hd, hs ids hp, Sem.run_bind, Sem.run_pure, Result.andThen_ok, List.map_toArray, List.map_cons, List.map_nil, hrun]
  have hX : (HX.rw sz e (some ⟨g, 0, none⟩) n cap (spl xs (l * sz) ys)).X w' := by
    have hsl : (spl cur (l * sz) ys).length = cap * sz := by rw [spl_len (by rw [hlen, hcl]; omega)]; exact hcl
    have := rw_shut hc0 hg' hnc hcm hsl
    rw [spl_take (by rw [hlen]; omega) (by rw [hcl]; omega), htk] at this
    exact this
  refine ⟨_, ids, rest.and (HX.rw sz e (some ⟨g, 0, none⟩) n cap (spl xs (l * sz) ys)), by simp only [Option.map_some, hr], List.prefix_refl _, hf.turn hgr (fun b hb => by cases hb; exact ⟨.inr ⟨hc0, rfl⟩, hM g hc0 rfl⟩) ⟨rest.loc w w' hf.x.1 fun q hq => hgr.block q (hf.sep q (.inl hq)).1 (fun e => by cases e; exact hdis g hc0 rfl hq), hX⟩ (fun k hk => .inl hk) hhp hfit hc oneNil, holds_pre t hp h⟩
theorem node_zeros {st kt e : TypeId} {so xo : Operand} {ac : Go.Call} {r : SV} {z : Value} {sz bytes : Nat} (hac : ac = { callee := .builtin .append, args := #[so, xo], argTypes := #[st, kt] }) (ht : C.P.underlying st = some (.slice e)) (hkt : C.P.underlying kt = some (.int .i64)) (hinfo : (C.P.info? e).map (fun i => (i.zero, i.size, i.bytes)) = some (some z, sz, bytes)) (hz : z.cells.size = sz) (hsz : 0 < sz) (hone : ∀ v ∈ z.cells.toList, v.oneCell' = true)
    (sa : Option Addr) (n cap k : Nat) (ys : List Value) (hk : 0 < k) (hroom : cap < n + k) (hlen : ys.length = n * sz) (h1 : ∀ u ∈ ys, u.oneCell' = true) (hys : ∀ ids w, pre <+: ids → Facts C m ρ ids hx w → Cells w sa ys)
    (h63 : n + k ≤ 1000000000) (hby : bytes ≤ 100000) (hso : ∀ ids, envOf ρ ids ps so = .slice sa n cap) (hxo : ∀ ids, envOf ρ ids ps xo = .int .i64 (k : Int))
    (hr : ∀ a' c' ids, r.den (ρ.add ⟨[], [], [], [n + k, c'], [a']⟩) ids = .slice a' (n + k) c') (hhp : m'.hp = m.hp) (hfit : hpFits m.c m.hp.length m.hp = true) (hc : ∀ a' c', (ρ.add ⟨[], [], [], [n + k, c'], [a']⟩).cnt = m'.c)
    (h : ∀ g c', c' ≠ 0 → n + k ≤ c' → C.W.heap.size ≤ g → ¬ hx.F g → t.holds C (ρ.add ⟨[], [], [], [n + k, c'], [some ⟨g, 0, none⟩]⟩) pre (hx.and (HX.rw sz e (some ⟨g, 0, none⟩) (n + k) c' (ys ++ (Builtin.zeroCells z.cells k).toList))) L) :
    (Tree.gen (.call ac) ty ps m (some r) m' t).holds C ρ pre hx L := by
  intro ids w hp hf
  subst hac
  unfold GenRun
  obtain ⟨i0, hi, hz0, hz1, hz2⟩ := info_parts hinfo
  have hcs : Cells w.drew sa ys := hys ids w hp hf
  have hold : (Builtin.firstCells i0.size n (.slice sa n cap)).run C.P w.drew = .ok ys.toArray w.drew := by
    rw [hz1]
    cases sa with
    | none =>
      have : ys = [] := List.eq_nil_of_length_eq_zero (Nat.eq_zero_of_not_pos fun q => by have := (hcs q).1; simp [PlainA] at this)
      subst this
      exact run_firstCells_none _ _ _ _ _
    | some ad =>
      refine run_firstCells_some _ sz n ad n cap ys hlen fun j u hj => ?_
      have hpos : 0 < ys.length := by
        rcases Nat.lt_or_ge j ys.length with q | q
        · omega
        · rw [List.getElem?_eq_none q] at hj; cases hj
      obtain ⟨ha, _, hcc⟩ := hcs hpos
      have e : ad = ⟨blk (some ad), ofs (some ad), none⟩ := Option.some.inj ha
      rw [e, Go.WideShapes.add_plain]; exact hcc j u hj
  have hnx : Builtin.nextslicecap (n + k) cap ≤ 2 * (n + k) := nextslicecap_le hroom
  have hb1 : k * i0.bytes ≤ 281474976710656 := by
    rw [hz2]
    exact Nat.le_trans (Nat.mul_le_mul (show k ≤ 1000000000 by omega) hby) (by decide)
  have hb2 : Builtin.nextslicecap (n + k) cap * i0.bytes ≤ 281474976710656 := by
    rw [hz2]
    exact Nat.le_trans (Nat.mul_le_mul (show _ ≤ 2000000000 by omega) hby) (by decide)
  have hrun := Go.Lib.run_append_grow_zeros (P := C.P) (ty := ty) w st kt e i0 z .i64 .i64 ht hkt hi hz0 sa n cap ys hold k hk (by omega) hroom (by omega) hb1 hb2
  simp only [execOp, resolve, invoke, builtin, hso, hxo, Sem.run_bind, Sem.run_pure, Result.andThen_ok, List.map_toArray, List.map_cons, List.map_nil, hrun]
  have hge := grownCap_ge w (n + k) cap e
  have hmx := grownCap_le_maxLen w (n + k) cap e (by simp only [maxLen]; omega)
  obtain ⟨c', ec⟩ : ∃ c', c' = grownCap w (n + k) cap e := ⟨_, rfl⟩
  rw [← ec] at hge hmx ⊢
  obtain ⟨zs, ezs⟩ : ∃ zs, zs = (Builtin.zeroCells z.cells k).toList := ⟨_, rfl⟩
  have hzl : zs.length = k * sz := by rw [ezs, zeroCells_len, hz]
  have hX : (HX.rw sz e (some ⟨w.heap.size, 0, none⟩) (n + k) c' (ys ++ zs)).X (w.drew.alloc (.cells (ys.toArray ++ Builtin.zeroCells z.cells k ++ Builtin.zeroCells z.cells (c' - (n + k))) e)) := by
    have hnew : (w.drew.alloc (.cells (ys.toArray ++ Builtin.zeroCells z.cells k ++ Builtin.zeroCells z.cells (c' - (n + k))) e)).heap[w.heap.size]? = some (.cells (ys ++ zs ++ (Builtin.zeroCells z.cells (c' - (n + k))).toList).toArray e (0, 0)) := by
      rw [ezs]
      show (w.heap.push _)[w.heap.size]? = _
      rw [Array.getElem?_push_size]
      congr 2
      apply Array.toList_inj.1
      simp
    have := rw_shut (sz := sz) (n := n + k) (cap := c') (by omega) hnew hge hmx (by
      rw [List.length_append, List.length_append, zeroCells_len, hlen, hzl, hz, ← Nat.add_mul, ← Nat.add_mul]; congr 1; omega)
    rw [List.take_append_of_le_length (by rw [List.length_append, hlen, hzl, Nat.add_mul]; omega), List.take_of_length_le (by rw [List.length_append, hlen, hzl, Nat.add_mul]; omega)] at this
    exact this
  have hg : w.grownBy (w.drew.alloc (.cells (ys.toArray ++ Builtin.zeroCells z.cells k ++ Builtin.zeroCells z.cells (c' - (n + k))) e)) none := by
    refine ⟨rfl, rfl, rfl, ?_, fun q hq _ => ?_⟩
    · show w.heap.size ≤ (w.heap.push _).size
      rw [Array.size_push]; omega
    · show (w.heap.push _)[q]? = _
      rw [Array.getElem?_push, if_neg (Nat.ne_of_lt hq)]
  rw [← ezs] at h
  refine ⟨⟨[], [], [], [n + k, c'], [some ⟨w.heap.size, 0, none⟩]⟩, ids, hx.and (HX.rw sz e (some ⟨w.heap.size, 0, none⟩) (n + k) c' (ys ++ zs)), by simp only [Option.map_some, hr], List.prefix_refl _, hf.turn (hx' := hx.and (HX.rw sz e (some ⟨w.heap.size, 0, none⟩) (n + k) c' (ys ++ zs))) hg (fun b e => by cases e) ⟨hx.loc _ _ hf.x fun q hq => hg.block q (hf.sep q hq).1 (fun e => by cases e), hX⟩ (fun q hq => ?_) hhp hfit (hc _ _) oneNil, holds_pre t hp (h _ c' (by omega) hge hf.chg.size (fun q => by have := (hf.sep _ q).1; omega))⟩
  rcases hq with hq | hq
  · exact .inl hq
  · refine .inr ⟨?_, rw_blt hX hq.1 hq.2⟩
    have := hq.2; cases this; exact Nat.le_refl _
theorem node_extw {g : Nat} {av : List Operand} {ts : Array TypeId} {fn : Func} {e : Array Value → Sem Value} {r : SV} {V : Value} (AS : List Nat → Array Value) (vs : Vals) (hf : C.P.funcs[g]? = some fn) (hnm : (fn.name == "runtime.NumGoroutine") = false) (hb : fn.body.isNone = true) (hn : Extern.findNext fn = none) (he : Extern.find fn = some e)
    (has : ∀ ids, (av.map (envOf ρ ids ps)).toArray = AS ids) (hrun : ∀ ids w, pre <+: ids → Facts C m ρ ids hx w → (e (AS ids)).run C.P w = .ok V w) (hr : ∀ ids, r.den (ρ.add vs) ids = V) (hhp : m'.hp = m.hp) (hfit : hpFits m.c m.hp.length m.hp = true) (hc : (ρ.add vs).cnt = m'.c) (h1 : ∀ v, v ∈ vs.v → v.oneCell' = true)
    (h : t.holds C (ρ.add vs) pre hx L) : (Tree.gen (.call { callee := .value (.func g), args := av.toArray, argTypes := ts }) ty ps m (some r) m' t).holds C ρ pre hx L := by
  refine node_gpure (V := V) vs (fun ids w hp hf2 => ?_) hr hhp hfit hc h1 h
  have hr2 := hrun ids w hp hf2
  unfold execOp
  simp only [resolve, envOf, Deferred.ofValue, List.map_toArray, has, Sem.run_bind, Sem.run_pure, Result.andThen_ok, invoke, callFunc, run_program, hf, hnm, hb, hn, he, run_mark, Bool.false_eq_true, if_false, if_true, Array.append_empty]
  simp [hr2]
end
section
variable {C : Cfg} {ρ : Env} {pre : List Nat} {hx : HX} {L : Stack} {m m' : Mem} {ty : Nat} {ps : List (Nat × SV)} {t : Tree} {r : Option SV}
theorem node_types {st st2 e e2 : TypeId} {so xo : Operand} (b : Option Addr) (n c0 : Nat) (ht : C.P.underlying st = some (.slice e)) (ht2 : C.P.underlying st2 = some (.slice e2)) (hso : ∀ ids, envOf ρ ids ps so = .slice b n c0)
    (h : (Tree.gen (.call { callee := .builtin .append, args := #[so, xo], argTypes := #[st, st] }) ty ps m r m' t).holds C ρ pre hx L) : (Tree.gen (.call { callee := .builtin .append, args := #[so, xo], argTypes := #[st, st2] }) ty ps m r m' t).holds C ρ pre hx L := by
  intro ids w hp hf
  have h2 := h ids w hp hf
  unfold GenRun at h2 ⊢
  simp only [execOp, resolve, invoke, builtin, hso, Sem.run_bind, Sem.run_pure, Result.andThen_ok, List.map_toArray, List.map_cons, List.map_nil, run_append_types w st st2 ty b n c0 _ ht ht2] at h2 ⊢
  exact h2
end
theorem Chg.but {F : Nat → Prop} {b : Nat} {w w' : World} (h : Chg (fun k => k = b ∨ F k) w w') (e : w'.heap[b]? = w.heap[b]?) : Chg F w w' :=
  ⟨h.os, h.tape, h.output, h.size, fun k hk hF => by
    by_cases q : k = b
    · rw [q]; exact e
    · exact h.block k hk (fun z => z.elim q hF)⟩
theorem ins_in {P Q T us : List Value} (h : us.length = T.length) : spl (spl (P ++ Q ++ T) (P.length + us.length) Q) P.length us = P ++ us ++ Q := by
  unfold spl
  have e1 : (P ++ Q ++ T).drop (P.length + us.length + Q.length) = [] := List.drop_of_length_le (by simp only [List.length_append]; omega)
  rw [e1, List.append_nil]
  have e2 : ((P ++ Q ++ T).take (P.length + us.length)).length = P.length + us.length := by
    rw [List.length_take]; simp only [List.length_append]; omega
  rw [List.drop_append, e2, List.drop_of_length_le (by rw [e2]; omega), Nat.sub_self, List.drop_zero, List.nil_append, List.take_append_of_le_length (by rw [e2]; omega), List.take_take, Nat.min_eq_left (by omega), List.append_assoc P Q T, List.take_left']
  rfl
theorem ins_new {P Q Z us : List Value} (h : Z.length = us.length + Q.length) : spl (spl (P ++ Z) P.length us) (P.length + us.length) Q = P ++ us ++ Q := by
  unfold spl
  have e1 : (P ++ Z).take P.length = P := List.take_left' rfl
  have e2 : (P ++ Z).drop (P.length + us.length) = Z.drop us.length := by rw [List.drop_append, List.drop_of_length_le (by omega), Nat.add_sub_cancel_left, List.nil_append]
  rw [e1, e2, List.take_append_of_le_length (by rw [List.length_append]; omega), List.take_of_length_le (by rw [List.length_append]; omega)]
  have e3 : (P ++ us ++ Z.drop us.length).drop (P.length + us.length + Q.length) = [] := List.drop_of_length_le (by simp only [List.length_append, List.length_drop]; omega)
  rw [e3, List.append_nil]
def RwMut (w : World) (V : Value → Value) (sz e : Nat) (a : Option Addr) (cap n' : Nat) (zs : List Value) (r : Ending) (w' : World) : Prop := ∃ a' c', r = .returned (V (.slice a' n' c')) ∧ (HX.rw sz e a' n' c' zs).X w' ∧ (∀ k, c' ≠ 0 → abk a' = some k → (cap ≠ 0 ∧ abk a = some k) ∨ w.heap.size ≤ k) ∧ Chg (fun k => cap ≠ 0 ∧ abk a = some k) w w'
section
variable {C : Cfg} {ρ : Env} {pre : List Nat} {rest hx : HX} {L : Stack} {m m' : Mem} {args : List SV} {r : SV} {t : Tree}
theorem node_rwm {f : Nat} {V : Value → Value} {sz e n cap n' : Nat} {a : Option Addr} {xs zs : List Value} (AS : List Nat → Array Value) (vs : Option Addr → Nat → Vals) (hargs : ∀ ids, (args.map (SV.den ρ ids)).toArray = AS ids) (hcall : ∀ ids w, pre <+: ids → Facts C m ρ ids (rest.and (HX.rw sz e a n cap xs)) w → Calls C.P f (AS ids) w (RwMut w V sz e a cap n' zs))
    (hdis : ∀ q, cap ≠ 0 → abk a = some q → ¬ rest.F q) (hM : ∀ q, cap ≠ 0 → abk a = some q → C.W.heap.size ≤ q ∨ C.M q)
    (hr : ∀ a' c' ids, r.den (ρ.add (vs a' c')) ids = V (.slice a' n' c')) (hhp : m'.hp = m.hp) (hfit : hpFits m.c m.hp.length m.hp = true) (hc : ∀ a' c', (ρ.add (vs a' c')).cnt = m'.c) (h1 : ∀ a' c' v, v ∈ (vs a' c').v → v.oneCell' = true)
    (h : ∀ a' c', (zs ≠ [] → a'.isSome = true) → (∀ k, c' ≠ 0 → abk a' = some k → ¬ rest.F k) → (∀ k, c' ≠ 0 → abk a' = some k → (cap ≠ 0 ∧ abk a = some k) ∨ (C.W.heap.size ≤ k ∧ ¬ (rest.and (HX.rw sz e a n cap xs)).F k)) → t.holds C (ρ.add (vs a' c')) pre (rest.and (HX.rw sz e a' n' c' zs)) L) : (Tree.call f args m r m' t).holds C ρ pre (rest.and (HX.rw sz e a n cap xs)) L := by
  intro ids w hp hf
  rw [hargs]
  refine (hcall ids w hp hf).mono ?_
  rintro e2 w' ⟨a', c', rfl, hX, hge, hch⟩
  have hg : w.grownBy w' (if cap = 0 then none else abk a) := ⟨hch.os, hch.tape, hch.output, hch.size, fun k hk hne => hch.block k hk fun ⟨q1, q2⟩ => hne (by rw [if_neg q1, q2])⟩
  have hrow1 : ∀ b, (if cap = 0 then none else abk a) = some b → cap ≠ 0 ∧ abk a = some b := fun b hb => by
    by_cases q : cap = 0
    · rw [if_pos q] at hb; cases hb
    · rw [if_neg q] at hb; exact ⟨q, hb⟩
  refine ⟨_, ids, _, by rw [← hr a' c' ids], List.prefix_refl _, hf.turn (hx' := rest.and (HX.rw sz e a' n' c' zs)) hg (fun b hb => ⟨.inr (hrow1 b hb), hM b (hrow1 b hb).1 (hrow1 b hb).2⟩) ⟨rest.loc w w' hf.x.1 fun k hk => hg.block k (hf.sep k (.inl hk)).1 fun q => hdis k (hrow1 k q.symm).1 (hrow1 k q.symm).2 hk, hX⟩ (fun k hk => ?_) hhp hfit (hc _ _) (h1 _ _), holds_pre t hp (h a' c' (rw_sm hX) (fun k q1 q2 hF => ?_) (fun k q1 q2 => ?_))⟩
  · rcases hk with hk | hk
    · exact .inl (.inl hk)
    · rcases hge k hk.1 hk.2 with q | q
      · exact .inl (.inr q)
      · exact .inr ⟨q, rw_blt hX hk.1 hk.2⟩
  · rcases hge k q1 q2 with q | q
    · exact hdis k q.1 q.2 hF
    · have := (hf.sep _ (.inl hF)).1; omega
  · rcases hge k q1 q2 with q | q
    · exact .inl q
    · exact .inr ⟨Nat.le_trans hf.chg.size q, fun hF => by have := (hf.sep _ hF).1; omega⟩
end
end Go.Eng

namespace Go.Eng
open Go.RowKit Go.Syn Go.MapKept
set_option linter.unusedVariables false
set_option linter.unusedSimpArgs false
def HX.vmap (b : Nat) (m : List (Int × Value)) : HX := ⟨fun k => k = b, fun w => VMap w b m, fun w w' h e => h.loc (e b rfl)⟩
theorem VMap.lookup1 {P : Program} {w : World} {b : Nat} {m : List (Int × Value)} {t kt et : TypeId} (h : VMap w b m) (k : Int) (ht : P.underlying t = some (.map kt et)) (hk : P.underlying kt = some (.int .i64)) {z : Value} (hz : (zeroValue et).run P w = .ok z w) :
    (Instr.lookup t (.map (some b)) (.int .i64 k) false).run P w = .ok ((vlk m k).getD z) w := by
  obtain ⟨es, clock, h1, h2, h3, f | f⟩ := h.find k
  · obtain ⟨f1, f2, _⟩ := f
    have q := run_findKey (P := P) (w := w) hk f1
    simp [Instr.lookup, run_underlying ht, MapKept.run_getObj_map h1, run_checkKey (P := P) (w := w) (k := .int .i64 k) hk rfl _ 9999, q, hz, Result.andThen, f2]
  · obtain ⟨j, e, v, f1, _, _, f4, _, f5⟩ := f
    have q := run_findKey (P := P) (w := w) hk f1
    simp [Instr.lookup, run_underlying ht, MapKept.run_getObj_map h1, run_checkKey (P := P) (w := w) (k := .int .i64 k) hk rfl _ 9999, q, Result.andThen, f4, f5]
section
variable {C : Cfg} {ρ : Env} {pre : List Nat} {hx rest : HX} {L : Stack} {m m' : Mem} {ty : Nat} {ps : List (Nat × SV)} {t : Tree}
theorem node_vlook {mt kt et : TypeId} {xo ko : Operand} {r : SV} {z : Value} (vs : Vals) (b : Nat) (mm : List (Int × Value)) (k : Int) (hx_ : ∀ w, hx.X w → VMap w b mm) (hmo : ∀ ids, envOf ρ ids ps xo = .map (some b)) (hko : ∀ ids, envOf ρ ids ps ko = .int .i64 k)
    (ht : C.P.underlying mt = some (.map kt et)) (hk : C.P.underlying kt = some (.int .i64)) (hz : ∀ w, (zeroValue et).run C.P w = .ok z w)
    (hr : ∀ ids, r.den (ρ.add vs) ids = .tuple #[(vlk mm k).getD z, .bool (vlk mm k).isSome]) (hhp : m'.hp = m.hp) (hfit : hpFits m.c m.hp.length m.hp = true) (hc : (ρ.add vs).cnt = m'.c) (h1 : ∀ v, v ∈ vs.v → v.oneCell' = true)
    (h : t.holds C (ρ.add vs) pre hx L) : (Tree.gen (.lookup mt xo ko true) ty ps m (some r) m' t).holds C ρ pre hx L := by
  refine node_gpure (V := .tuple #[(vlk mm k).getD z, .bool (vlk mm k).isSome]) vs (fun ids w hp hf => ?_) hr hhp hfit hc h1 h
  have hrun := (hx_ w hf.x).lookup (P := C.P) (t := mt) k ht hk (hz w)
  simp only [execOp, hmo, hko, Sem.run_bind, Sem.run_pure, Result.andThen_ok, hrun]
theorem node_vlook1 {mt kt et : TypeId} {xo ko : Operand} {r : SV} {z : Value} (vs : Vals) (b : Nat) (mm : List (Int × Value)) (k : Int) (hx_ : ∀ w, hx.X w → VMap w b mm) (hmo : ∀ ids, envOf ρ ids ps xo = .map (some b)) (hko : ∀ ids, envOf ρ ids ps ko = .int .i64 k)
    (ht : C.P.underlying mt = some (.map kt et)) (hk : C.P.underlying kt = some (.int .i64)) (hz : ∀ w, (zeroValue et).run C.P w = .ok z w)
    (hr : ∀ ids, r.den (ρ.add vs) ids = (vlk mm k).getD z) (hhp : m'.hp = m.hp) (hfit : hpFits m.c m.hp.length m.hp = true) (hc : (ρ.add vs).cnt = m'.c) (h1 : ∀ v, v ∈ vs.v → v.oneCell' = true)
    (h : t.holds C (ρ.add vs) pre hx L) : (Tree.gen (.lookup mt xo ko false) ty ps m (some r) m' t).holds C ρ pre hx L := by
  refine node_gpure (V := (vlk mm k).getD z) vs (fun ids w hp hf => ?_) hr hhp hfit hc h1 h
  have hrun := (hx_ w hf.x).lookup1 (P := C.P) (t := mt) k ht hk (hz w)
  simp only [execOp, hmo, hko, Sem.run_bind, Sem.run_pure, Result.andThen_ok, hrun]
theorem node_vput {mt kt et : TypeId} {xo ko vo : Operand} (b : Nat) (mm : List (Int × Value)) (k : Int) (v : Value) (hown : C.W.heap.size ≤ b ∨ C.M b) (hdis : ¬ rest.F b) (hmo : ∀ ids, envOf ρ ids ps xo = .map (some b)) (hko : ∀ ids, envOf ρ ids ps ko = .int .i64 k) (hvo : ∀ ids, envOf ρ ids ps vo = v)
    (ht : C.P.underlying mt = some (.map kt et)) (hk : C.P.underlying kt = some (.int .i64)) (hhp : m'.hp = m.hp) (hfit : hpFits m.c m.hp.length m.hp = true) (hc : ρ.cnt = m'.c)
    (h : t.holds C ρ pre (rest.and (HX.vmap b (vput mm k v))) L) : (Tree.gen (.mapUpdate mt xo ko vo) ty ps m none m' t).holds C ρ pre (rest.and (HX.vmap b mm)) L := by
  intro ids w hp hf
  unfold GenRun
  obtain ⟨w', hrun, h1, h2⟩ := VMap.update (P := C.P) (t := mt) (show VMap w b mm from hf.x.2) k v ht hk
  simp only [execOp, hmo, hko, hvo, Sem.run_bind, Sem.run_pure, Result.andThen_ok, hrun]
  refine ⟨Vals.nil, ids, rest.and (HX.vmap b (vput mm k v)), rfl, List.prefix_refl _, hf.turn h2 (fun b' e => by cases e; exact ⟨.inr rfl, hown⟩) ⟨rest.loc w w' hf.x.1 fun q hq => h2.block q (hf.sep q (.inl hq)).1 (fun e => hdis (by cases e; exact hq)), h1⟩ (fun k hk => .inl hk) hhp hfit (by rw [Env.add_nil]; exact hc) oneNil, ?_⟩
  rw [Env.add_nil]; exact holds_pre t hp h
end
end Go.Eng

namespace Go.Eng
open Go.RowKit Go.Syn Go.MapKept
set_option linter.unusedVariables false
set_option linter.unusedSimpArgs false
def HX.all (l : List HX) : HX := ⟨fun k => ∃ h ∈ l, h.F k, fun w => ∀ h ∈ l, h.X w, fun w w' hX e h hh => h.loc w w' (hX h hh) fun k hk => e k ⟨h, hh, hk⟩⟩
def HX.obj (F : Nat → Prop) (Q : HX → Prop) : HX := ⟨F, fun w => ∃ h, Q h ∧ h.X w ∧ ∀ k, h.F k → F k, fun w w' hX e => by
  obtain ⟨h, q, x, s⟩ := hX
  exact ⟨h, q, h.loc w w' x fun k hk => e k (s k hk), s⟩⟩
section
variable {C : Cfg} {L : Stack}
theorem Facts.sub {m : Mem} {ρ : Env} {ids : List Nat} {hx hx' : HX} {w : World} (hX : ∀ w, hx.X w → hx'.X w) (hF : ∀ k, hx'.F k → hx.F k) (hf : Facts C m ρ ids hx w) : Facts C m ρ ids hx' w :=
  ⟨hf.len, hf.nod, hf.blk, hf.own, hf.chg, hX w hf.x, fun b hb => hf.sep b (hF b hb), hf.cnt⟩
theorem holds_sub : ∀ (t : Tree) {ρ : Env} {pre : List Nat} {hx hx' : HX} {L : Stack}, (∀ w, hx.X w → hx'.X w) → (∀ k, hx'.F k → hx.F k) → t.holds C ρ pre hx' L → t.holds C ρ pre hx L
  | .done _ _, _, _, _, _, _, hX, hF, h => fun ids w hi hf => h ids w hi (hf.sub hX hF)
  | .fail _ _, _, _, _, _, _, _, _, h => h
  | .br _ t f, _, _, _, _, _, hX, hF, h => ⟨fun hb => holds_sub t hX hF (h.1 hb), fun hb => holds_sub f hX hF (h.2 hb)⟩
  | .need _ t, _, _, _, _, _, hX, hF, h => ⟨h.1, fun hb => holds_sub t hX hF (h.2 hb)⟩
  | .call .., _, _, _, _, _, hX, hF, h => fun ids w hi hf => h ids w hi (hf.sub hX hF)
  | .gen .., _, _, _, _, _, hX, hF, h => fun ids w hi hf => h ids w hi (hf.sub hX hF)
  | .ld true _ _ _ _ t, _, _, _, _, _, hX, hF, h => fun ids w hi hf => by
    obtain ⟨vs, h1, h2, h3⟩ := h ids w hi (hf.sub hX hF)
    exact ⟨vs, h1, h2, holds_sub t hX hF h3⟩
  | .ld false _ _ _ _ t, _, _, _, _, _, hX, hF, h => by
    obtain ⟨vs, h1, h2, h3⟩ := h
    exact ⟨vs, h1, h2, holds_sub t hX hF h3⟩
  | .ldq _ _ _ _ t, _, _, _, _, _, hX, hF, h => fun ids w hi hf => by
    obtain ⟨vs, ⟨ad, e1, e2, e3⟩, h2, h3⟩ := h ids w hi (hf.sub hX hF)
    exact ⟨vs, ⟨ad, e1, fun q => e2 fun r => q (hF _ r), e3⟩, h2, holds_sub t hX hF h3⟩
  | .loop _ _ _ _ t, _, _, _, _, _, hX, hF, h => by
    obtain ⟨I, h1, h2⟩ := h
    exact ⟨I, fun ids w hi hf => h1 ids w hi (hf.sub hX hF), h2⟩
  | .again .., _, _, _, _, _, hX, hF, h => fun ids w hi hf => h ids w hi (hf.sub hX hF)
  | .join _ _ _ a b, _, _, _, _, _, hX, hF, h => by
    obtain ⟨I, h1, h2⟩ := h
    exact ⟨I, holds_sub a hX hF h1, h2⟩
  | .par a b, _, _, _, _, _, hX, hF, h => ⟨holds_sub a hX hF h.1, holds_sub b hX hF h.2⟩
end
section
variable {C : Cfg} {ρ : Env} {pre : List Nat} {hx rest h0 : HX} {L : Stack} {m m' : Mem} {args : List SV} {r : SV} {t : Tree} {ids : List Nat} {w w' : World} {vs : Vals}
end
def kv (e : MapEntry) : Value × Value := (e.key, e.val)
def keyI (e : MapEntry) : Int := match e.key with | .int _ n => n | _ => 0
theorem keyI_map {es : List MapEntry} {m : List (Int × Value)} (h : es.map kv = m.map vent) : es.map keyI = m.map (·.1) := by
  have h1 : es.map keyI = (es.map kv).map fun p => match p.1 with | .int _ n => n | _ => 0 := by rw [List.map_map]; rfl
  rw [h1, h, List.map_map]; rfl
structure Rg (w : World) (i b : Nat) (m left : List (Int × Value)) (last : Option (Int × Value)) : Prop where
  ex : ∃ es clock seen since c0, w.heap[b]? = some (.map es clock) ∧ Stamped es clock ∧ es.toList.map kv = m.map vent ∧ w.heap[i]? = some (.mapIter (some b) since seen c0) ∧ (∀ x ∈ es.toList, x.born < since) ∧ since ≤ c0 ∧ since ≤ clock ∧
    (es.toList.filter fun e => !seen.contains e.born).map kv = left.map vent ∧ ∀ p, last = some p → c0 = clock ∧ ∃ (s0 : Array Nat) (e : MapEntry), e ∈ es.toList ∧ seen = s0.push e.born ∧ kv e = vent p
theorem Rg.map {w : World} {i b : Nat} {m left : List (Int × Value)} {last : Option (Int × Value)} (h : Rg w i b m left last) : VMap w b m := by
  obtain ⟨es, clock, seen, since, c0, h1, h2, h3, _⟩ := h
  exact ⟨es, clock, h1, h2, h3⟩
theorem Rg.nodup {w : World} {i b : Nat} {m left : List (Int × Value)} {last : Option (Int × Value)} (h : Rg w i b m left last) : (left.map (·.1)).Nodup ∧ ∀ p ∈ left, p ∈ m := by
  obtain ⟨es, clock, seen, since, c0, h1, h2, h3, h4, h5, h6, h7, h8, _⟩ := h
  have hv := vnodup_of h2 h3
  have e1 := keyI_map h3
  have e2 := keyI_map h8
  refine ⟨?_, fun p hp => ?_⟩
  · rw [← e2]
    rw [← e1] at hv
    exact (List.Sublist.map _ List.filter_sublist).nodup hv
  · have : vent p ∈ left.map vent := List.mem_map.2 ⟨p, hp, rfl⟩
    rw [← h8] at this
    obtain ⟨e, he, e3⟩ := List.mem_map.1 this
    have he2 : e ∈ es.toList := (List.mem_filter.1 he).1
    have : kv e ∈ m.map vent := by rw [← h3]; exact List.mem_map.2 ⟨e, he2, rfl⟩
    obtain ⟨q, hq, e4⟩ := List.mem_map.1 this
    rw [← vent_inj (e4.trans e3)]; exact hq
section
variable {C : Cfg} {ρ : Env} {pre : List Nat} {hx rest : HX} {L : Stack} {m m' : Mem} {ty : Nat} {ps : List (Nat × SV)} {t : Tree}
theorem node_vmake {mt : TypeId} {r : SV} (hr : ∀ v ids, r.den (ρ.add ⟨[], [], [v], [], []⟩) ids = v) (hhp : m'.hp = m.hp) (hfit : hpFits m.c m.hp.length m.hp = true) (hc : ∀ v, (ρ.add ⟨[], [], [v], [], []⟩).cnt = m'.c)
    (h : ∀ b, C.W.heap.size ≤ b → ¬ hx.F b → t.holds C (ρ.add ⟨[], [], [.map (some b)], [], []⟩) pre (hx.and (HX.vmap b [])) L) : (Tree.gen (.makeMap mt none) ty ps m (some r) m' t).holds C ρ pre hx L := by
  intro ids w hp hf
  unfold GenRun
  have hrun := run_makeMap (P := C.P) mt w
  simp only [execOp, Option.map_none, Sem.run_bind, Sem.run_pure, Result.andThen_ok, hrun]
  have hg : w.grownBy (w.alloc (.map #[] 0)) none := ⟨rfl, rfl, rfl, by show w.heap.size ≤ (w.heap.push _).size; simp, fun k hk _ => heap_alloc_old w _ hk⟩
  refine ⟨⟨[], [], [.map (some w.heap.size)], [], []⟩, ids, hx.and (HX.vmap w.heap.size []), ?_, List.prefix_refl _, hf.turn hg (fun b' e => by cases e) ⟨hx.loc _ _ hf.x fun b hb => heap_alloc_old w _ (hf.sep b hb).1, VMap.new w⟩ (fun k hk => ?_) hhp hfit (hc _) (fun v hv => ?_), holds_pre t hp (h _ hf.chg.size (fun q => by have := (hf.sep _ q).1; omega))⟩
  · simp only [Option.map_some, hr]
  · rcases hk with hk | hk
    · exact .inl hk
    · exact .inr ⟨Nat.le_of_eq hk.symm, by rw [show k = w.heap.size from hk]; show w.heap.size < (w.heap.push _).size; simp⟩
  · simp only [List.mem_singleton] at hv; subst hv; rfl
end
end Go.Eng

namespace Go.Proofs.Ytbedoemdjlollaa
open Go.Eng
abbrev tXFirstb0 : List LV := [(tLi 0), (tSl 1 2 3), (tLi 0), (tLi 0), (tLi 0), (tLi 0), (tLi 0), (tLi 0), (tLi 0), (tLi 0), (tLi 0), (tLi 0), (tLi 0), (tLi 0), (tLi 0), (tLi 0), (tLi 0), (tLi 0), (tLi 0), .nilsl]
abbrev tXFirstb1 : List LV := [(tLi 0), .nilsl, (tLi 0), (tLi 0), (tLi 0), (tLi 0), (tLi 0), (tLi 0), (tLi 0), (tLi 0), (tLi 0), (tLi 0), (tLi 0), (tLi 0), (tLi 0), (tLi 0), (tLi 0), (tLi 0), (tLi 0), .nilsl]
set_option maxRecDepth 100000 in
theorem tXFirst : (runF ⟨tt, fns, {}⟩ (Try.f15.body.getD .skip) Try.f15.results.toList (entry Try.f15.ntmps [.lf (.sl 0 (.var 0) (.var 1))] [] ⟨0, 0, 0, 2, 1⟩)) =
  (.call 32 [(.lf (tSl 0 0 1))] ⟨[(54, tXFirstb1)], ⟨0, 0, 0, 2, 1⟩⟩ (.lf (tSl 1 2 3)) ⟨[(54, tXFirstb1)], ⟨0, 0, 0, 4, 2⟩⟩ (.done (.agg tXFirstb0) ⟨[(54, tXFirstb0)], ⟨0, 0, 0, 4, 2⟩⟩)) := by kernel_rfl
abbrev tXValidb0 : List LV := [(tVi 0), (tSl 0 0 1), (tVi 1), (tVi 2), (tVi 3), (tVi 4), (tVi 5), (tVi 6), (tVi 7), (tVi 8), (tVi 9), (tVi 10), (tVi 11), (tVi 12), (tVi 13), (tVi 14), (tVi 15), (tVi 16), (tVi 17), (tSl 1 2 3)]
set_option maxRecDepth 100000 in
theorem tXValid : (runF ⟨tt, fns, {}⟩ (Try.f34.body.getD .skip) Try.f34.results.toList (entry Try.f34.ntmps [.agg [.int .i64 (.var 0), .sl 0 (.var 0) (.var 1), .int .i64 (.var 1), .int .i64 (.var 2), .int .i64 (.var 3), .int .i64 (.var 4), .int .i64 (.var 5), .int .i64 (.var 6), .int .i64 (.var 7), .int .i64 (.var 8), .int .i64 (.var 9), .int .i64 (.var 10), .int .i64 (.var 11), .int .i64 (.var 12), .int .i64 (.var 13), .int .i64 (.var 14), .int .i64 (.var 15), .int .i64 (.var 16), .int .i64 (.var 17), .sl 1 (.var 2) (.var 3)]] [] ⟨18, 0, 0, 4, 2⟩)) =
  (.br (.cmp .geq (.var 0) (.lit 0)) (.br (.cmp .leq (.var 0) (.lit 1099511627776)) (.br (.cmp .geq (.var 1) (.lit 0)) (.br (.cmp .leq (.var 1) (.lit 1099511627776)) (.call 38 [(.lf (tSl 0 0 1))] ⟨[(54, tXValidb0)], ⟨18, 0, 0, 4, 2⟩⟩ (.lf (tVi 18)) ⟨[(54, tXValidb0)], ⟨19, 0, 0, 4, 2⟩⟩ (.br (.cmp .eql (.var 18) (.lit 0)) (.call 45 [(.agg [(tVi 2), (tVi 3), (tVi 4), (tVi 5), (tVi 6), (tVi 7), (tVi 8), (tVi 9), (tVi 10), (tVi 11), (tVi 12), (tVi 13), (tVi 14), (tVi 15), (tVi 16), (tVi 17)])] ⟨[(54, tXValidb0)], ⟨19, 0, 0, 4, 2⟩⟩ (.lf (.bool (.var 0))) ⟨[(54, tXValidb0)], ⟨19, 1, 0, 4, 2⟩⟩ (.br (.var 0) (.call 53 [(.lf (tSl 1 2 3))] ⟨[(54, tXValidb0)], ⟨19, 1, 0, 4, 2⟩⟩ (.lf (.bool (.var 1))) ⟨[(54, tXValidb0)], ⟨19, 2, 0, 4, 2⟩⟩ (.done (.lf (.bool (.var 1))) ⟨[(54, tXValidb0)], ⟨19, 2, 0, 4, 2⟩⟩)) (.done (.lf (.bool (.lit .false))) ⟨[(54, tXValidb0)], ⟨19, 1, 0, 4, 2⟩⟩))) (.done (.lf (.bool (.lit .false))) ⟨[(54, tXValidb0)], ⟨19, 0, 0, 4, 2⟩⟩))) (.done (.lf (.bool (.lit .false))) ⟨[(54, tXValidb0)], ⟨18, 0, 0, 4, 2⟩⟩)) (.done (.lf (.bool (.lit .false))) ⟨[(54, tXValidb0)], ⟨18, 0, 0, 4, 2⟩⟩)) (.done (.lf (.bool (.lit .false))) ⟨[(54, tXValidb0)], ⟨18, 0, 0, 4, 2⟩⟩)) (.done (.lf (.bool (.lit .false))) ⟨[(54, tXValidb0)], ⟨18, 0, 0, 4, 2⟩⟩)) := by kernel_rfl
abbrev tXCloneb0 : List LV := [(tVi 0), (tSl 0 0 1), (tVi 1), (tVi 2), (tVi 3), (tVi 4), (tVi 5), (tVi 6), (tVi 7), (tVi 8), (tVi 9), (tVi 10), (tVi 11), (tVi 12), (tVi 13), (tVi 14), (tVi 15), (tVi 16), (tVi 17), (tSl 1 2 3)]
abbrev tXCloneb1 : List LV := [(tVi 0), (tSl 2 4 5), (tVi 1), (tVi 2), (tVi 3), (tVi 4), (tVi 5), (tVi 6), (tVi 7), (tVi 8), (tVi 9), (tVi 10), (tVi 11), (tVi 12), (tVi 13), (tVi 14), (tVi 15), (tVi 16), (tVi 17), (tSl 1 2 3)]
abbrev tXCloneb2 : List LV := [(tVi 0), (tSl 2 4 5), (tVi 1), (tVi 2), (tVi 3), (tVi 4), (tVi 5), (tVi 6), (tVi 7), (tVi 8), (tVi 9), (tVi 10), (tVi 11), (tVi 12), (tVi 13), (tVi 14), (tVi 15), (tVi 16), (tVi 17), (tSl 3 6 7)]
abbrev tXCloneb3 : List LV := [(tLi 0), .nilsl, (tLi 0), (tLi 0), (tLi 0), (tLi 0), (tLi 0), (tLi 0), (tLi 0), (tLi 0), (tLi 0), (tLi 0), (tLi 0), (tLi 0), (tLi 0), (tLi 0), (tLi 0), (tLi 0), (tLi 0), .nilsl]
set_option maxRecDepth 100000 in
theorem tXClone : (runF ⟨tt, fns, {}⟩ (Try.f35.body.getD .skip) Try.f35.results.toList (entry Try.f35.ntmps [.agg [.int .i64 (.var 0), .sl 0 (.var 0) (.var 1), .int .i64 (.var 1), .int .i64 (.var 2), .int .i64 (.var 3), .int .i64 (.var 4), .int .i64 (.var 5), .int .i64 (.var 6), .int .i64 (.var 7), .int .i64 (.var 8), .int .i64 (.var 9), .int .i64 (.var 10), .int .i64 (.var 11), .int .i64 (.var 12), .int .i64 (.var 13), .int .i64 (.var 14), .int .i64 (.var 15), .int .i64 (.var 16), .int .i64 (.var 17), .sl 1 (.var 2) (.var 3)]] [] ⟨18, 0, 0, 4, 2⟩)) =
  (.call 32 [(.lf (tSl 0 0 1))] ⟨[(54, tXCloneb0), (54, tXCloneb3)], ⟨18, 0, 0, 4, 2⟩⟩ (.lf (tSl 2 4 5)) ⟨[(54, tXCloneb0), (54, tXCloneb3)], ⟨18, 0, 0, 6, 3⟩⟩ (.call 54 [(.lf (tSl 1 2 3))] ⟨[(54, tXCloneb1), (54, tXCloneb3)], ⟨18, 0, 0, 6, 3⟩⟩ (.lf (tSl 3 6 7)) ⟨[(54, tXCloneb1), (54, tXCloneb3)], ⟨18, 0, 0, 8, 4⟩⟩ (.done (.agg tXCloneb2) ⟨[(54, tXCloneb2), (54, tXCloneb2)], ⟨18, 0, 0, 8, 4⟩⟩))) := by kernel_rfl
abbrev tXRunb0 : List LV := [(tVi 0), (tSl 0 0 1), (tVi 1), (tVi 29), (tVi 30), (tVi 31), (tVi 32), (tVi 33), (tVi 34), (tVi 35), (tVi 36), (tVi 37), (tVi 38), (tVi 39), (tVi 40), (tVi 41), (tVi 42), (tVi 43), (tVi 44), (tSl 1 2 3)]
abbrev tXRunb1 : List LV := [(tVi 0), (tSl 0 0 1), (tVi 1), (tVi 29), (tVi 30), (tVi 31), (tVi 32), (tVi 33), (tVi 34), (tVi 35), (tVi 36), (tVi 37), (tVi 38), (tVi 39), (tVi 40), (tVi 41), (tVi 42), (tVi 43), (tVi 44), (tSl 3 6 7)]
abbrev tXRunb2 : List LV := [(tVi 0), (tSl 0 0 1), (tVi 1), (tVi 2), (tVi 3), (tVi 4), (tVi 5), (tVi 6), (tVi 7), (tVi 8), (tVi 9), (tVi 10), (tVi 11), (tVi 12), (tVi 13), (tVi 14), (tVi 15), (tVi 16), (tVi 17), (tSl 1 2 3)]
abbrev tXRunb3 : List LV := [(tVi 0), (tSl 0 0 1), (tVi 1), (tVi 2), (tVi 3), (tVi 4), (tVi 5), (tVi 6), (tVi 7), (tVi 8), (tVi 9), (tVi 10), (tVi 11), (tVi 12), (tVi 13), (tVi 14), (tVi 15), (tVi 16), (tVi 17), (tSl 2 4 5)]
abbrev tXRunb4 : List LV := [(tVi 29), (tVi 30), (tVi 31), (tVi 32), (tVi 33), (tVi 34), (tVi 35), (tVi 36), (tVi 37), (tVi 38), (tVi 39), (tVi 40), (tVi 41), (tVi 42), (tVi 43), (tVi 44)]
abbrev tXRunb5 : List LV := [(tVi 2), (tVi 3), (tVi 4), (tVi 5), (tVi 6), (tVi 7), (tVi 8), (tVi 9), (tVi 10), (tVi 11), (tVi 12), (tVi 13), (tVi 14), (tVi 15), (tVi 16), (tVi 17)]
abbrev tXRunb6 : List LV := [(tLi 0), (tLi 0), (tLi 0), (tLi 0), (tLi 0), (tLi 0), (tLi 0), (tLi 0), (tLi 0), (tLi 0), (tLi 0), (tLi 0), (tLi 0), (tLi 0), (tLi 0), (tLi 0)]
abbrev tXRunb7 : List LV := [(tVi 18), (tVi 19), (tVi 20), (tVi 21), (tVi 22), (tVi 23), (tVi 24), (tVi 25)]
abbrev tXRunb8 : List LV := [(tVi 21), (tVi 22), (tVi 23), (tVi 24), (tVi 25)]
abbrev tXRunm0 : Mem := ⟨[(54, tXRunb1), (43, tXRunb7), (62, [(tVi 45), (tVi 46), (tVi 47)]), (62, [(tVi 45), (tVi 46), (tVi 47)]), (93, tXRunb4)], ⟨48, 1, 0, 8, 4⟩⟩
abbrev tXRunm1 : Mem := ⟨[(54, tXRunb2), (43, tXRunb7), (62, [(tLi 0), (tLi 0), (tLi 0)]), (62, [(tVi 26), (tVi 27), (tVi 28)]), (93, tXRunb6)], ⟨29, 1, 0, 6, 3⟩⟩
abbrev tXRunm2 : Mem := ⟨[(54, tXRunb2), (43, tXRunb7), (62, [(tLi 0), (tLi 0), (tLi 0)]), (62, [(tVi 26), (tVi 27), (tVi 28)]), (93, tXRunb6)], ⟨48, 1, 0, 6, 3⟩⟩
abbrev tXRunm3 : Mem := ⟨[(54, tXRunb0), (43, tXRunb7), (62, [(tLi 0), (tLi 0), (tLi 0)]), (62, [(tVi 45), (tVi 46), (tVi 47)]), (93, tXRunb4)], ⟨48, 1, 0, 6, 3⟩⟩
abbrev tXRunm4 : Mem := ⟨[(54, tXRunb0), (43, tXRunb7), (62, [(tLi 0), (tLi 0), (tLi 0)]), (62, [(tVi 45), (tVi 46), (tVi 47)]), (93, tXRunb4)], ⟨48, 1, 0, 8, 4⟩⟩
abbrev tXRunm5 : Mem := ⟨[(54, tXRunb3), (43, tXRunb7), (62, [(tVi 26), (tVi 27), (tVi 28)]), (62, [(tVi 26), (tVi 27), (tVi 28)])], ⟨29, 1, 0, 6, 3⟩⟩
set_option maxRecDepth 100000 in
theorem tXRun : (runF ⟨tt, fns, {}⟩ (Try.f36.body.getD .skip) Try.f36.results.toList (entry Try.f36.ntmps [.lf (.ptr 0 0), .agg [.int .i64 (.var 18), .int .i64 (.var 19), .int .i64 (.var 20), .int .i64 (.var 21), .int .i64 (.var 22), .int .i64 (.var 23), .int .i64 (.var 24), .int .i64 (.var 25)]] [(54, [.int .i64 (.var 0), .sl 0 (.var 0) (.var 1), .int .i64 (.var 1), .int .i64 (.var 2), .int .i64 (.var 3), .int .i64 (.var 4), .int .i64 (.var 5), .int .i64 (.var 6), .int .i64 (.var 7), .int .i64 (.var 8), .int .i64 (.var 9), .int .i64 (.var 10), .int .i64 (.var 11), .int .i64 (.var 12), .int .i64 (.var 13), .int .i64 (.var 14), .int .i64 (.var 15), .int .i64 (.var 16), .int .i64 (.var 17), .sl 1 (.var 2) (.var 3)])] ⟨26, 0, 0, 4, 2⟩)) =
  (.par (.call 55 [(.lf (tSl 1 2 3)), (.agg tXRunb7)] ⟨[(54, tXRunb2), (43, tXRunb7), (62, [(tLi 0), (tLi 0), (tLi 0)])], ⟨26, 0, 0, 4, 2⟩⟩ (.tup [(.false, [(tSl 2 4 5)]), (.true, [(tVi 26), (tVi 27), (tVi 28)]), (.false, [(.bool (.var 0))])]) ⟨[(54, tXRunb2), (43, tXRunb7), (62, [(tLi 0), (tLi 0), (tLi 0)])], ⟨29, 1, 0, 6, 3⟩⟩ (.br (.not (.var 0)) (.call 31 [(.agg tXRunb5), (.agg tXRunb8)] tXRunm1 (.tup [(.true, tXRunb4), (.true, [(tVi 45), (tVi 46), (tVi 47)])]) tXRunm2 (.call 56 [(.lf (tSl 2 4 5)), (.agg tXRunb7), (.agg [(tVi 45), (tVi 46), (tVi 47)])] tXRunm3 (.lf (tSl 3 6 7)) tXRunm4 (.done (.agg [(tVi 45), (tVi 46), (tVi 47)]) tXRunm0))) (.done (.agg [(tVi 26), (tVi 27), (tVi 28)]) tXRunm5))) (.call 55 [(.lf (tSl 1 2 3)), (.agg tXRunb7)] ⟨[(54, tXRunb2), (43, tXRunb7), (62, [(tLi 0), (tLi 0), (tLi 0)]), (62, [(tLi 0), (tLi 0), (tLi 0)])], ⟨26, 0, 0, 4, 2⟩⟩ (.tup [(.false, [(tSl 2 4 5)]), (.true, [(tVi 26), (tVi 27), (tVi 28)]), (.false, [(.bool (.var 0))])]) ⟨[(54, tXRunb2), (43, tXRunb7), (62, [(tLi 0), (tLi 0), (tLi 0)]), (62, [(tLi 0), (tLi 0), (tLi 0)])], ⟨29, 1, 0, 6, 3⟩⟩ (.br (.not (.var 0)) (.call 31 [(.agg tXRunb5), (.agg tXRunb8)] tXRunm1 (.tup [(.true, tXRunb4), (.true, [(tVi 45), (tVi 46), (tVi 47)])]) tXRunm2 (.call 56 [(.lf (tSl 2 4 5)), (.agg tXRunb7), (.agg [(tVi 45), (tVi 46), (tVi 47)])] tXRunm3 (.lf (tSl 3 6 7)) tXRunm4 (.done (.agg [(tVi 45), (tVi 46), (tVi 47)]) tXRunm0))) (.done (.agg [(tVi 26), (tVi 27), (tVi 28)]) tXRunm5)))) := by kernel_rfl
abbrev tXExecb0 : List LV := [(.int .i64 (.op .add .i64 (.var 21) (.lit 1))), (tSl 6 12 13), (tVi 18), (tVi 23), (tVi 24), (tVi 25), (tVi 26), (tVi 27), (tVi 28), (tVi 29), (tVi 30), (tVi 31), (tVi 32), (tVi 33), (tVi 34), (tVi 35), (tVi 36), (tVi 37), (tVi 38), (tSl 5 10 11)]
abbrev tXExecb1 : List LV := [(.int .i64 (.op .add .i64 (.var 21) (.lit 1))), (tSl 4 8 9), (tVi 18), (tVi 23), (tVi 24), (tVi 25), (tVi 26), (tVi 27), (tVi 28), (tVi 29), (tVi 30), (tVi 31), (tVi 32), (tVi 33), (tVi 34), (tVi 35), (tVi 36), (tVi 37), (tVi 38), (tSl 5 10 11)]
abbrev tXExecb2 : List LV := [(tVi 66), (tSl 9 18 19), (tVi 67), (tVi 68), (tVi 69), (tVi 70), (tVi 71), (tVi 72), (tVi 73), (tVi 74), (tVi 75), (tVi 76), (tVi 77), (tVi 78), (tVi 79), (tVi 80), (tVi 81), (tVi 82), (tVi 83), (tSl 10 20 21)]
abbrev tXExecb3 : List LV := [(tVi 40), (tSl 7 14 15), (tVi 41), (tVi 42), (tVi 43), (tVi 44), (tVi 45), (tVi 46), (tVi 47), (tVi 48), (tVi 49), (tVi 50), (tVi 51), (tVi 52), (tVi 53), (tVi 54), (tVi 55), (tVi 56), (tVi 57), (tSl 8 16 17)]
abbrev tXExecb4 : List LV := [(tVi 21), (tSl 4 8 9), (tVi 18), (tVi 23), (tVi 24), (tVi 25), (tVi 26), (tVi 27), (tVi 28), (tVi 29), (tVi 30), (tVi 31), (tVi 32), (tVi 33), (tVi 34), (tVi 35), (tVi 36), (tVi 37), (tVi 38), (tSl 5 10 11)]
abbrev tXExecb5 : List LV := [(tVi 0), (tSl 0 0 1), (tVi 1), (tVi 2), (tVi 3), (tVi 4), (tVi 5), (tVi 6), (tVi 7), (tVi 8), (tVi 9), (tVi 10), (tVi 11), (tVi 12), (tVi 13), (tVi 14), (tVi 15), (tVi 16), (tVi 17), (tSl 1 2 3)]
abbrev tXExecb6 : List LV := [(tLi 0), .nilsl, (tLi 0), (tLi 0), (tLi 0), (tLi 0), (tLi 0), (tLi 0), (tLi 0), (tLi 0), (tLi 0), (tLi 0), (tLi 0), (tLi 0), (tLi 0), (tLi 0), (tLi 0), (tLi 0), (tLi 0), .nilsl]
abbrev tXExecb7 : List LV := [(tVi 58), (tVi 59), (tVi 60), (tVi 61), (tVi 62), (tVi 63), (tVi 64), (tVi 65)]
abbrev tXExecb8 : List LV := [(tVi 58), (tVi 59), (tVi 84), (tVi 85), (tVi 86)]
abbrev tXExecm0 : Mem := ⟨[(54, tXExecb2), (35, [(tVi 19), (tSl 2 4 5), (tSl 3 6 7)]), (54, tXExecb6), (43, tXExecb7), (64, tXExecb8)], ⟨87, 0, 0, 24, 12⟩⟩
abbrev tXExecm1 : Mem := ⟨[(54, tXExecb3), (35, [(tVi 19), (tSl 2 4 5), (tSl 3 6 7)]), (54, tXExecb6)], ⟨58, 0, 0, 18, 9⟩⟩
abbrev tXExecm2 : Mem := ⟨[(54, tXExecb5), (35, [(tVi 19), (tSl 2 4 5), (tSl 3 6 7)]), (54, tXExecb6)], ⟨20, 0, 0, 8, 4⟩⟩
abbrev tXExecm3 : Mem := ⟨[(54, tXExecb5), (35, [(tVi 19), (tSl 2 4 5), (tSl 3 6 7)]), (54, tXExecb6)], ⟨20, 1, 0, 8, 4⟩⟩
abbrev tXExecm4 : Mem := ⟨[(54, tXExecb5), (35, [(tVi 19), (tSl 2 4 5), (tSl 3 6 7)]), (54, tXExecb6)], ⟨21, 0, 0, 8, 4⟩⟩
set_option maxRecDepth 100000 in
theorem tXExec : (runF ⟨tt, fns, { joins := [(5, ⟨[], []⟩)], touch := [(36, [0])], loops := [(17, ⟨[(66, .int .i64), (10, .sl)], [0]⟩)] }⟩ (Try.f17.body.getD .skip) Try.f17.results.toList (entry Try.f17.ntmps [.agg [.int .i64 (.var 0), .sl 0 (.var 0) (.var 1), .int .i64 (.var 1), .int .i64 (.var 2), .int .i64 (.var 3), .int .i64 (.var 4), .int .i64 (.var 5), .int .i64 (.var 6), .int .i64 (.var 7), .int .i64 (.var 8), .int .i64 (.var 9), .int .i64 (.var 10), .int .i64 (.var 11), .int .i64 (.var 12), .int .i64 (.var 13), .int .i64 (.var 14), .int .i64 (.var 15), .int .i64 (.var 16), .int .i64 (.var 17), .sl 1 (.var 2) (.var 3)], .lf (.int .i64 (.var 18)), .agg [.int .i64 (.var 19), .sl 2 (.var 4) (.var 5), .sl 3 (.var 6) (.var 7)]] [] ⟨20, 0, 0, 8, 4⟩)) =
  (.join 5 tXExecm2 tXExecm2 (.call 34 [(.agg tXExecb5)] tXExecm2 (.lf (.bool (.var 0))) tXExecm3 (.br (.not (.var 0)) (.done (.tup [(.true, tXExecb6), (.false, [.nilsl]), (.false, [(tLi 44)])]) tXExecm3) (.br (.cmp .neq (.var 18) (.op .add .i64 (.var 1) (.lit 1))) (.done (.tup [(.true, tXExecb6), (.false, [.nilsl]), (.false, [(tLi 61)])]) tXExecm3) (.br (.cmp .gtr (.var 18) (.lit 1099511627776)) (.done (.tup [(.true, tXExecb6), (.false, [.nilsl]), (.false, [(tLi 61)])]) tXExecm3) (.br (.cmp .eql (.var 19) (.lit 2)) (.br (.cmp .geq (.var 0) (.lit 1099511627776)) (.done (.tup [(.true, tXExecb6), (.false, [.nilsl]), (.false, [(tLi 61)])]) tXExecm3) (.again 5 ⟨[], [], [], [], []⟩ tXExecm3)) (.again 5 ⟨[], [], [], [], []⟩ tXExecm3)))))) (.call 24 [(.agg [(tVi 19), (tSl 2 4 5), (tSl 3 6 7)])] tXExecm2 (.lf (tVi 20)) tXExecm4 (.br (.cmp .neq (.var 20) (.lit 0)) (.done (.tup [(.true, tXExecb6), (.false, [.nilsl]), (.false, [(tVi 20)])]) tXExecm4) (.call 35 [(.agg tXExecb5)] tXExecm4 (.agg [(tVi 21), (tSl 4 8 9), (tVi 22), (tVi 23), (tVi 24), (tVi 25), (tVi 26), (tVi 27), (tVi 28), (tVi 29), (tVi 30), (tVi 31), (tVi 32), (tVi 33), (tVi 34), (tVi 35), (tVi 36), (tVi 37), (tVi 38), (tSl 5 10 11)]) ⟨[(54, tXExecb5), (35, [(tVi 19), (tSl 2 4 5), (tSl 3 6 7)]), (54, tXExecb6)], ⟨39, 0, 0, 12, 6⟩⟩ (.br (.cmp .eql (.var 19) (.lit 2)) (.call 32 [(.lf (tSl 3 6 7))] ⟨[(54, tXExecb1), (35, [(tVi 19), (tSl 2 4 5), (tSl 3 6 7)]), (54, tXExecb6)], ⟨39, 0, 0, 12, 6⟩⟩ (.lf (tSl 6 12 13)) ⟨[(54, tXExecb1), (35, [(tVi 19), (tSl 2 4 5), (tSl 3 6 7)]), (54, tXExecb6)], ⟨39, 0, 0, 14, 7⟩⟩ (.done (.tup [(.true, tXExecb0), (.false, [.nilsl]), (.false, [(tLi 0)])]) ⟨[(54, tXExecb0), (35, [(tVi 19), (tSl 2 4 5), (tSl 3 6 7)]), (54, tXExecb0)], ⟨39, 0, 0, 14, 7⟩⟩)) (.br (.cmp .eql (.var 19) (.lit 1)) (.loop 17 ⟨[(.lit 0), (.var 21), (.var 18), (.var 23), (.var 24), (.var 25), (.var 26), (.var 27), (.var 28), (.var 29), (.var 30), (.var 31), (.var 32), (.var 33), (.var 34), (.var 35), (.var 36), (.var 37), (.var 38)], [], [], [(.lit 0), (.lit 0), (.var 8), (.var 9), (.var 10), (.var 11)], [.nil, (.var 4), (.var 5)]⟩ ⟨[(54, tXExecb4), (35, [(tVi 19), (tSl 2 4 5), (tSl 3 6 7)]), (54, tXExecb6)], ⟨39, 0, 0, 12, 6⟩⟩ tXExecm1 (.br (.cmp .lss (.var 39) (.nat 4)) (.need (.inb 2 (.var 39) (.nat 4)) (.ld .false (.adr 2 (.var 39) 8 0) tXExecb7 tXExecm1 ⟨[(54, tXExecb3), (35, [(tVi 19), (tSl 2 4 5), (tSl 3 6 7)]), (54, tXExecb6)], ⟨66, 0, 0, 18, 9⟩⟩ (.call 36 [(.lf (.ptr 0 0)), (.agg tXExecb7)] ⟨[(54, tXExecb3), (35, [(tVi 19), (tSl 2 4 5), (tSl 3 6 7)]), (54, tXExecb6), (43, tXExecb7)], ⟨66, 0, 0, 18, 9⟩⟩ (.agg [(tVi 84), (tVi 85), (tVi 86)]) ⟨[(54, tXExecb2), (35, [(tVi 19), (tSl 2 4 5), (tSl 3 6 7)]), (54, tXExecb6), (43, tXExecb7)], ⟨87, 0, 0, 22, 11⟩⟩ (.gen (.call ⟨(.builtin .append), #[(.tmp 70), (.tmp 78)], #[58, 58]⟩) 58 [(70, (.lf (tSl 6 12 13))), (78, (.lf (.nsl 4 0 1 1)))] ⟨[(54, tXExecb2), (35, [(tVi 19), (tSl 2 4 5), (tSl 3 6 7)]), (54, tXExecb6), (43, tXExecb7), (64, tXExecb8)], ⟨87, 0, 0, 22, 11⟩⟩ (.some (.lf (tSl 11 22 23))) tXExecm0 (.again 17 ⟨[(.op .add .i64 (.var 39) (.lit 1)), (.var 66), (.var 67), (.var 68), (.var 69), (.var 70), (.var 71), (.var 72), (.var 73), (.var 74), (.var 75), (.var 76), (.var 77), (.var 78), (.var 79), (.var 80), (.var 81), (.var 82), (.var 83)], [], [], [(.var 22), (.var 23), (.var 18), (.var 19), (.var 20), (.var 21)], [(.var 11), (.var 9), (.var 10)]⟩ tXExecm0))))) (.done (.tup [(.true, tXExecb3), (.false, [(tSl 6 12 13)]), (.false, [(tLi 0)])]) ⟨[(54, tXExecb3), (35, [(tVi 19), (tSl 2 4 5), (tSl 3 6 7)]), (54, tXExecb3)], ⟨58, 0, 0, 18, 9⟩⟩))) (.done (.tup [(.true, tXExecb4), (.false, [.nilsl]), (.false, [(tLi 0)])]) ⟨[(54, tXExecb4), (35, [(tVi 19), (tSl 2 4 5), (tSl 3 6 7)]), (54, tXExecb4)], ⟨39, 0, 0, 12, 6⟩⟩))))))) := by kernel_rfl
end Go.Proofs.Ytbedoemdjlollaa

namespace Go.Proofs.Ytbedoemdjlollaa
open Go.ChangeShapes Go.WideShapes Go.ChangeAt Go.RowKit Go.Syn Go.Eng
set_option linter.unusedVariables false
set_option linter.unusedSimpArgs false
set_option maxRecDepth 100000

set_option maxHeartbeats 2000000 in
theorem inst_any (a : Option Addr) (cap n i : Nat) (xs : List Value) (no ack : Int) (b : Nat) (w : World) (H : (HX.rw 3 141 a n cap xs).X w) (hb : Blk w b [Value.int .i64 no, .int .i64 ack, .slice none 0 0] 141) (hi : i ≤ n) (hn : n ≤ 1000000) (hxo : ∀ u ∈ xs, u.oneCell' = true) (hna : ∀ k, cap ≠ 0 → abk a = some k → k ≠ b) :
    Calls Try.prog 72 #[.slice a n cap, .int .i64 (i : Int), .slice (some ⟨b, 0, none⟩) 1 1] w (RwMut w id 3 141 a cap (n + 1) (xs.take (i * 3) ++ [Value.int .i64 no, .int .i64 ack, .slice none 0 0] ++ xs.drop (i * 3))) := by
  obtain ⟨us, eus⟩ : ∃ us, us = [Value.int .i64 no, .int .i64 ack, .slice none 0 0] := ⟨_, rfl⟩
  have hul : us.length = 3 := by rw [eus]; rfl
  have huo : ∀ u ∈ us, u.oneCell' = true := by rw [eus]; intro u hu; simp at hu; rcases hu with rfl | rfl | rfl <;> rfl
  have hxl := rw_len H
  have hle := rw_le H
  have hwn : IntKind.i64.wrap ((n : Int) + 1) = ((n + 1 : Nat) : Int) := by rw [wrap_i64 (by omega)]; omega
  have hwi : IntKind.i64.wrap ((i : Int) + 1) = ((i + 1 : Nat) : Int) := by rw [wrap_i64 (by omega)]; omega
  have hwk : IntKind.i64.wrap (IntKind.i64.wrap ((n : Int) + 1) - (i : Int)) = ((n + 1 - i : Nat) : Int) := by rw [hwn, wrap_i64 (by omega)]; omega
  have hlt0 : ∀ k, cap ≠ 0 → abk a = some k → k < w.heap.size := fun k h1 h2 => rw_blt H h1 h2
  have hblt : b < w.heap.size := by
    rcases Nat.lt_or_ge b w.heap.size with q | q
    · exact q
    · have h2 : w.heap[b]? = _ := hb
      rw [Array.getElem?_eq_none q] at h2; cases h2
  have same : ∀ {m : Mem} {ρ : Env} {ids : List Nat} {hx : HX} {w2 : World} {R : Ending → World → Prop} {lvs : List LV}, [b] <+: ids → Facts ⟨Try.prog, w, fun k => k = b ∨ (cap ≠ 0 ∧ abk a = some k), R⟩ ⟨[(141, lvs)], m.c⟩ ρ ids hx w2 → cellsDen ρ ids lvs = [Value.int .i64 no, .int .i64 ack, .slice none 0 0] → w2.heap[b]? = w.heap[b]? := fun hp hf hv => by
    have e0 := hf.blkAt 0 rfl
    rw [idAt0 hp, hv] at e0
    exact e0.trans hb.symm
  rw [← eus]
  by_cases hin : i = n
  · subst hin
    rw [List.take_of_length_le (Nat.le_of_eq hxl), List.drop_of_length_le (Nat.le_of_eq hxl), List.append_nil]
    refine calls_at (tab_ok _) Try.func72 rfl tInsT (ρ := ⟨[(i : Int), no, ack], [], [], [i, cap], [a]⟩) (ids := [b]) (hx := HX.nil.and (HX.rw 3 141 a i cap xs)) (M := fun k => k = b ∨ (cap ≠ 0 ∧ abk a = some k)) rfl (Facts.initx rfl oneNil hb (by kernel_rfl) (.inl rfl) ⟨trivial, H⟩ (fun k hk => hk.elim (fun q => q.elim) (fun q => ⟨rw_blt H q.1 q.2, hna k q.1 q.2⟩))) ?_
    refine node_from (l := i) (n := i) (cap := cap) (sz := 3) a Try.underlying123 (by kernel_rfl) info_se (by intros; kernel_rfl) (by intros; kernel_rfl) (Nat.le_refl _) (by intros; kernel_rfl) (by kernel_rfl) (by kernel_rfl) (by kernel_rfl) ?_
    refine br_T ((i : Int) == (i : Int)) (by kernel_rfl) (by simp) ?_
    refine node_types a i cap Try.underlying123 Try.underlying52 (by intros; kernel_rfl) ?_
    refine node_pushs (sz := 3) (z := (.agg #[.int .i64 0, .int .i64 0, .slice none 0 0])) rfl Try.underlying123 info_se rfl (by decide) a i cap xs us 0 (by intros; kernel_rfl) (by intros; kernel_rfl) rfl (by rw [eus]; intros; kernel_rfl) hul huo (fun k _ _ q => q.elim) (fun k h1 h2 => .inr (.inr ⟨h1, h2⟩)) (by simp only [maxLen]; omega) (by omega) (by intros; kernel_rfl) (by kernel_rfl) (by kernel_rfl) (by intros; kernel_rfl) ?_
    intro a' cap' hc0 _ hwh ids w2 hp hf
    refine ⟨a', cap', by kernel_rfl, hf.x.2, fun k h1 h2 => ?_, hf.chg.but (same (m := ⟨[], _⟩) hp hf (by kernel_rfl))⟩
    rcases hwh with ⟨q1, q2⟩ | ⟨g, q1, q2, q3⟩
    · exact .inl ⟨q1, by rw [← q2]; exact h2⟩
    · rw [q1] at h2; cases h2; exact .inr q2
  have hin2 : i < n := by omega
  have hc0 : cap ≠ 0 := by omega
  obtain ⟨g, cur, ea, hlt, hg, hnc, hcm, hcl, htk⟩ := rw_open H hc0
  have hdl : (xs.drop (i * 3)).length = (n - i) * 3 := by rw [List.length_drop, hxl]; omega
  have htl : (xs.take (i * 3)).length = i * 3 := by rw [List.length_take, hxl]; omega
  have hA : sliA a 0 cap 3 = a := by rw [ea, sliA_in (by omega), Nat.zero_mul]
  have hAi : ∀ l, sliA (sliA a 0 cap 3) l cap 3 = sliA a l cap 3 := fun l => by rw [hA]
  have hone : ∀ u ∈ xs.drop (i * 3), u.oneCell' = true := fun u hu => hxo u (List.mem_of_mem_drop hu)
  by_cases hroom : n + 1 ≤ cap
  · have hmul : (n + 1) * 3 ≤ cap * 3 := Nat.mul_le_mul_right _ hroom
    obtain ⟨T, eT⟩ : ∃ T, T = (cur.drop (n * 3)).take 3 := ⟨_, rfl⟩
    have hTl : T.length = 3 := by rw [eT, List.length_take, List.length_drop, hcl]; omega
    have H2 : (HX.rw 3 141 a (n + 1) cap (xs ++ T)).X w := by
      have := rw_shut hc0 hg hroom hcm hcl
      rw [ea]
      rw [show cur.take ((n + 1) * 3) = xs ++ T by rw [eT, ← htk, Nat.add_mul, Nat.one_mul, List.take_add]] at this
      exact this
    refine calls_at (tab_ok _) Try.func72 rfl tInsT (ρ := ⟨[(i : Int), no, ack], [], [], [n, cap], [a]⟩) (ids := [b]) (hx := HX.nil.and (HX.rw 3 141 a (n + 1) cap (xs ++ T))) (M := fun k => k = b ∨ (cap ≠ 0 ∧ abk a = some k)) rfl (Facts.initx rfl oneNil hb (by kernel_rfl) (.inl rfl) ⟨trivial, H2⟩ (fun k hk => hk.elim (fun q => q.elim) (fun q => ⟨rw_blt H q.1 q.2, hna k q.1 q.2⟩))) ?_
    refine node_from (l := i) (n := n) (cap := cap) (sz := 3) a Try.underlying123 (by kernel_rfl) info_se (by intros; kernel_rfl) (by intros; kernel_rfl) (by omega) (by intros; kernel_rfl) (by kernel_rfl) (by kernel_rfl) (by kernel_rfl) ?_
    refine br_F ((i : Int) == (n : Int)) (by kernel_rfl) (beq_eq_false_iff_ne.2 (by omega)) ?_
    refine node_cap rfl Try.underlying123 a n cap (by intros; kernel_rfl) (by intros; kernel_rfl) (by kernel_rfl) (by kernel_rfl) (by kernel_rfl) ?_
    refine br_F (decide (IntKind.i64.wrap ((n : Int) + 1) > (cap : Int))) (by kernel_rfl) (decide_eq_false (by rw [hwn]; omega)) ?_
    refine node_upto (u := n + 1) (n := n) (cap := cap) (sz := 3) a Try.underlying123 (by kernel_rfl) info_se (by intros; kernel_rfl) (fun ids => Eq.trans (b := .int .i64 (IntKind.i64.wrap ((n : Int) + 1))) (by kernel_rfl) (by rw [hwn])) (fun ids w2 hf => hroom) (by intros; kernel_rfl) (by kernel_rfl) (by kernel_rfl) (by kernel_rfl) ?_
    refine node_from (l := i + 1) (n := n + 1) (cap := cap) (sz := 3) (sliA a 0 cap 3) Try.underlying123 (by kernel_rfl) info_se (by intros; kernel_rfl) (fun ids => Eq.trans (b := .int .i64 (IntKind.i64.wrap ((i : Int) + 1))) (by kernel_rfl) (by rw [hwi])) (by omega) (by intros; kernel_rfl) (by kernel_rfl) (by kernel_rfl) (by kernel_rfl) ?_
    have hps : a.isSome = true := by rw [ea]; rfl
    refine node_extw (g := 85) (e := Extern.SlicesOverlaps.overlaps #[52, 52] #[4]) (V := .bool false) (fun ids => #[.slice (some ⟨idAt ids 0, 0, none⟩) 1 1, .slice (sliA (sliA a 0 cap 3) (i + 1) cap 3) (n + 1 - (i + 1)) (cap - (i + 1))]) ⟨[], [false], [], [], []⟩ (fn := Try.prog.funcs[85]!) (by kernel_rfl) (by kernel_rfl) (by kernel_rfl) (by kernel_rfl) (by kernel_rfl) (by intros; kernel_rfl) (fun ids w2 hp hf => ?_) (by intros; kernel_rfl) (by kernel_rfl) (by kernel_rfl) (by kernel_rfl) oneNil ?_
    · rw [hAi, ea, sliA_in (by omega)]
      obtain ⟨g2, cur2, ea2, hlt2, hg2, _, _, hcl2, _⟩ := rw_open hf.x.2 hc0
      have e0 := hf.blkAt 0 rfl
      rw [idAt0 hp] at e0 ⊢
      have hgg : g2 = g := by rw [ea] at ea2; cases ea2; rfl
      subst hgg
      have hb2 : w2.heap[b]? = _ := e0
      refine Go.Lib.run_overlaps_apart w2 52 4 141 Try.underlying52 3 (fun w3 => by
        obtain ⟨i0, hi0, hz0, hz1, hz2⟩ := info_parts info_se
        simp [sizeOf, typeInfo, hi0, hz1]) ⟨b, 0, none⟩ ⟨g2, (i + 1) * 3, none⟩ 1 1 _ _ (fun q => hna g2 hc0 (by rw [ea]; rfl) q.symm) 141 141 3 (cap * 3) ?_ ?_ (by omega) ?_ ?_
      · simp only [World.shape?, hb2]; kernel_rfl
      · simp only [World.shape?, hg2]; rw [← hcl2]; simp
      · simp only [World.frozen?, hb2]; rfl
      · simp only [World.frozen?, hb2]; rfl
    refine br_t (by kernel_rfl) ?_
    have hcs1 : ∀ {m : Mem} {ρ : Env} {ids : List Nat} {w2 : World} {R : Ending → World → Prop} {ys : List Value}, Facts ⟨Try.prog, w, fun k => k = b ∨ (cap ≠ 0 ∧ abk a = some k), R⟩ m ρ ids (HX.nil.and (HX.rw 3 141 a (n + 1) cap (xs ++ T))) w2 → Cells w2 (sliA (sliA a 0 cap 3) i cap 3) (xs.drop (i * 3)) := fun hf => by
      rw [hAi]
      have := sli_cells (rw_cells hf.x.2) i ((n - i) * 3) cap 3 (by rw [List.length_append, hxl]; omega) (by rw [List.length_append, hxl, hTl]; omega) (by decide)
      rw [List.drop_append_of_le_length (by rw [hxl]; omega), List.take_append_of_le_length (by rw [hdl]; omega), List.take_of_length_le (by rw [hdl]; omega)] at this
      exact this
    have hres : spl (spl (xs ++ T) ((i + 1) * 3) (xs.drop (i * 3))) (i * 3) us = xs.take (i * 3) ++ us ++ xs.drop (i * 3) := by
      have := ins_in (P := xs.take (i * 3)) (Q := xs.drop (i * 3)) (T := T) (us := us) (by rw [hul, hTl])
      rw [htl, hul, List.take_append_drop] at this
      rw [show (i + 1) * 3 = i * 3 + 3 by omega]; exact this
    refine ⟨?_, ?_⟩
    · refine node_from (l := i + 1) (n := n + 1) (cap := cap) (sz := 3) (sliA a 0 cap 3) Try.underlying123 (by kernel_rfl) info_se (by intros; kernel_rfl) (fun ids => Eq.trans (b := .int .i64 (IntKind.i64.wrap ((i : Int) + 1))) (by kernel_rfl) (by rw [hwi])) (by omega) (by intros; kernel_rfl) (by kernel_rfl) (by kernel_rfl) (by kernel_rfl) ?_
      refine node_from (l := i) (n := n + 1) (cap := cap) (sz := 3) (sliA a 0 cap 3) Try.underlying123 (by kernel_rfl) info_se (by intros; kernel_rfl) (by intros; kernel_rfl) (by omega) (by intros; kernel_rfl) (by kernel_rfl) (by kernel_rfl) (by kernel_rfl) ?_
      refine node_copy (sz := 3) (e := 141) rfl Try.underlying123 info_se (by decide) a (n + 1) cap (i + 1) (xs ++ T) (sliA (sliA a 0 cap 3) (i + 1) cap 3) (n + 1 - (i + 1)) (cap - (i + 1)) (fun _ => sliA (sliA a 0 cap 3) i cap 3) (n + 1 - i) (cap - i) (n - i) (xs.drop (i * 3)) (by intros; kernel_rfl) (fun ids hp => by kernel_rfl) (fun _ _ => hAi _) (by show min _ _ = _; omega) hdl (by omega) hone (fun ids w2 hp hf => hcs1 (ys := xs) hf) (fun q _ _ z => z.elim) (fun k h1 h2 => .inr (.inr ⟨h1, h2⟩)) (by intros; kernel_rfl) (by kernel_rfl) (by kernel_rfl) (by kernel_rfl) ?_
      refine node_from (l := i) (n := n + 1) (cap := cap) (sz := 3) (sliA a 0 cap 3) Try.underlying123 (by kernel_rfl) info_se (by intros; kernel_rfl) (by intros; kernel_rfl) (by omega) (by intros; kernel_rfl) (by kernel_rfl) (by kernel_rfl) (by kernel_rfl) ?_
      refine node_copy (sz := 3) (e := 141) rfl Try.underlying123 info_se (by decide) a (n + 1) cap i _ (sliA (sliA a 0 cap 3) i cap 3) (n + 1 - i) (cap - i) (fun ids => some ⟨idAt ids 0, 0, none⟩) 1 1 1 us (by intros; kernel_rfl) (fun ids hp => by kernel_rfl) (fun _ _ => hAi _) (Nat.min_eq_left (by omega)) (by rw [hul]) (by omega) huo (fun ids w2 hp hf => by rw [eus]; exact blk_cells (hf.blkAt 0 rfl)) (fun q _ _ z => z.elim) (fun k h1 h2 => .inr (.inr ⟨h1, h2⟩)) (by intros; kernel_rfl) (by kernel_rfl) (by kernel_rfl) (by kernel_rfl) ?_
      rw [hres]
      intro ids w2 hp hf
      exact ⟨a, cap, Eq.trans (b := .returned (.slice (sliA a 0 cap 3) (n + 1) cap)) (by kernel_rfl) (by rw [hA]; rfl), hf.x.2, fun k h1 h2 => .inl ⟨h1, h2⟩, hf.chg.but (same (m := ⟨[], _⟩) hp hf (by kernel_rfl))⟩
    · refine node_from (l := i) (n := n + 1) (cap := cap) (sz := 3) (sliA a 0 cap 3) Try.underlying123 (by kernel_rfl) info_se (by intros; kernel_rfl) (by intros; kernel_rfl) (by omega) (by intros; kernel_rfl) (by kernel_rfl) (by kernel_rfl) (by kernel_rfl) ?_
      refine node_from (l := i + 1) (n := n + 1) (cap := cap) (sz := 3) (sliA a 0 cap 3) Try.underlying123 (by kernel_rfl) info_se (by intros; kernel_rfl) (fun ids => Eq.trans (b := .int .i64 (IntKind.i64.wrap ((i : Int) + 1))) (by kernel_rfl) (by rw [hwi])) (by omega) (by intros; kernel_rfl) (by kernel_rfl) (by kernel_rfl) (by kernel_rfl) ?_
      refine node_copy (sz := 3) (e := 141) rfl Try.underlying123 info_se (by decide) a (n + 1) cap (i + 1) (xs ++ T) (sliA (sliA a 0 cap 3) (i + 1) cap 3) (n + 1 - (i + 1)) (cap - (i + 1)) (fun _ => sliA (sliA a 0 cap 3) i cap 3) (n + 1 - i) (cap - i) (n - i) (xs.drop (i * 3)) (by intros; kernel_rfl) (fun ids hp => by kernel_rfl) (fun _ _ => hAi _) (by show min _ _ = _; omega) hdl (by omega) hone (fun ids w2 hp hf => hcs1 (ys := xs) hf) (fun q _ _ z => z.elim) (fun k h1 h2 => .inr (.inr ⟨h1, h2⟩)) (by intros; kernel_rfl) (by kernel_rfl) (by kernel_rfl) (by kernel_rfl) ?_
      refine node_from (l := i) (n := n + 1) (cap := cap) (sz := 3) (sliA a 0 cap 3) Try.underlying123 (by kernel_rfl) info_se (by intros; kernel_rfl) (by intros; kernel_rfl) (by omega) (by intros; kernel_rfl) (by kernel_rfl) (by kernel_rfl) (by kernel_rfl) ?_
      refine node_copy (sz := 3) (e := 141) rfl Try.underlying123 info_se (by decide) a (n + 1) cap i _ (sliA (sliA a 0 cap 3) i cap 3) (n + 1 - i) (cap - i) (fun ids => some ⟨idAt ids 0, 0, none⟩) 1 1 1 us (by intros; kernel_rfl) (fun ids hp => by kernel_rfl) (fun _ _ => hAi _) (Nat.min_eq_left (by omega)) (by rw [hul]) (by omega) huo (fun ids w2 hp hf => by rw [eus]; exact blk_cells (hf.blkAt 0 rfl)) (fun q _ _ z => z.elim) (fun k h1 h2 => .inr (.inr ⟨h1, h2⟩)) (by intros; kernel_rfl) (by kernel_rfl) (by kernel_rfl) (by kernel_rfl) ?_
      rw [hres]
      intro ids w2 hp hf
      exact ⟨a, cap, Eq.trans (b := .returned (.slice (sliA a 0 cap 3) (n + 1) cap)) (by kernel_rfl) (by rw [hA]; rfl), hf.x.2, fun k h1 h2 => .inl ⟨h1, h2⟩, hf.chg.but (same (m := ⟨[], _⟩) hp hf (by kernel_rfl))⟩
  · obtain rfl : cap = n := by omega
    refine calls_at (tab_ok _) Try.func72 rfl tInsT (ρ := ⟨[(i : Int), no, ack], [], [], [cap, cap], [a]⟩) (ids := [b]) (hx := HX.nil.and (HX.rw 3 141 a cap cap xs)) (M := fun k => k = b ∨ (cap ≠ 0 ∧ abk a = some k)) rfl (Facts.initx rfl oneNil hb (by kernel_rfl) (.inl rfl) ⟨trivial, H⟩ (fun k hk => hk.elim (fun q => q.elim) (fun q => ⟨rw_blt H q.1 q.2, hna k q.1 q.2⟩))) ?_
    refine node_from (l := i) (n := cap) (cap := cap) (sz := 3) a Try.underlying123 (by kernel_rfl) info_se (by intros; kernel_rfl) (by intros; kernel_rfl) (by omega) (by intros; kernel_rfl) (by kernel_rfl) (by kernel_rfl) (by kernel_rfl) ?_
    refine br_F ((i : Int) == (cap : Int)) (by kernel_rfl) (beq_eq_false_iff_ne.2 (by omega)) ?_
    refine node_cap rfl Try.underlying123 a cap cap (by intros; kernel_rfl) (by intros; kernel_rfl) (by kernel_rfl) (by kernel_rfl) (by kernel_rfl) ?_
    refine br_T (decide (IntKind.i64.wrap ((cap : Int) + 1) > (cap : Int))) (by kernel_rfl) (decide_eq_true (by rw [hwn]; omega)) ?_
    refine node_upto (u := i) (n := cap) (cap := cap) (sz := 3) a Try.underlying123 (by kernel_rfl) info_se (by intros; kernel_rfl) (by intros; kernel_rfl) (fun ids w2 hf => hi) (by intros; kernel_rfl) (by kernel_rfl) (by kernel_rfl) (by kernel_rfl) ?_
    refine node_zeros (sz := 3) (z := (.agg #[.int .i64 0, .int .i64 0, .slice none 0 0])) rfl Try.underlying123 (by kernel_rfl) info_se rfl (by decide) (by intro v hv; simp [Value.cells] at hv; rcases hv with rfl | rfl | rfl <;> rfl) (sliA a 0 cap 3) i cap (cap + 1 - i) (xs.take (i * 3)) (by omega) (by omega) htl (fun u hu => hxo u (List.mem_of_mem_take hu)) (fun ids w2 hp hf => ?_) (by omega) (by decide) (by intros; kernel_rfl) (fun ids => Eq.trans (b := .int .i64 (IntKind.i64.wrap (IntKind.i64.wrap ((cap : Int) + 1) - (i : Int)))) (by kernel_rfl) (by rw [hwk])) (by intros; kernel_rfl) (by kernel_rfl) (by kernel_rfl) (by intros; kernel_rfl) ?_
    · have := sli_cells (rw_cells hf.x.2) 0 (i * 3) cap 3 (by omega) (Nat.le_of_eq hxl) (by decide)
      rw [Nat.zero_mul, List.drop_zero] at this
      exact this
    intro g3 c3 hc3 hge3 hnew3 hnF3
    obtain ⟨N, eN⟩ : ∃ N, N = i + (cap + 1 - i) := ⟨_, rfl⟩
    have hN : N = cap + 1 := by omega
    obtain ⟨Z, eZ⟩ : ∃ Z, Z = (Builtin.zeroCells (Value.cells (.agg #[.int .i64 0, .int .i64 0, .slice none 0 0])) (cap + 1 - i)).toList := ⟨_, rfl⟩
    have hZl : Z.length = (cap + 1 - i) * 3 := by rw [eZ, zeroCells_len]; rfl
    rw [← eZ, ← eN]
    have hdis3 : ∀ q, c3 ≠ 0 → abk (some (⟨g3, 0, none⟩ : Addr)) = some q → ¬ (HX.nil.and (HX.rw 3 141 a cap cap xs)).F q := fun q _ h2 => by cases h2; exact hnF3
    refine node_from (l := i) (n := N) (cap := c3) (sz := 3) (some ⟨g3, 0, none⟩) Try.underlying123 (by kernel_rfl) info_se (by intros; kernel_rfl) (by intros; kernel_rfl) (by omega) (by intros; kernel_rfl) (by kernel_rfl) (by kernel_rfl) (by kernel_rfl) ?_
    refine node_copy (sz := 3) (e := 141) rfl Try.underlying123 info_se (by decide) (some ⟨g3, 0, none⟩) N c3 i (xs.take (i * 3) ++ Z) (sliA (some ⟨g3, 0, none⟩) i c3 3) (N - i) (c3 - i) (fun ids => some ⟨idAt ids 0, 0, none⟩) 1 1 1 us (by intros; kernel_rfl) (fun ids hp => by kernel_rfl) (fun _ _ => rfl) (Nat.min_eq_left (by omega)) (by rw [hul]) (by omega) huo (fun ids w2 hp hf => ?_) hdis3 (fun q _ h2 => by cases h2; exact .inl hnew3) (by intros; kernel_rfl) (by kernel_rfl) (by kernel_rfl) (by kernel_rfl) ?_
    · have e0 := hf.blkAt 0 rfl
      rw [eus]; exact blk_cells e0
    have hres : spl (spl (xs.take (i * 3) ++ Z) (i * 3) us) ((i + 1) * 3) (xs.drop (i * 3)) = xs.take (i * 3) ++ us ++ xs.drop (i * 3) := by
      have := ins_new (P := xs.take (i * 3)) (Q := xs.drop (i * 3)) (Z := Z) (us := us) (by rw [hZl, hul, hdl]; omega)
      rw [htl, hul] at this
      rw [show (i + 1) * 3 = i * 3 + 3 by omega]; exact this
    have hcs2 : ∀ {m : Mem} {ρ : Env} {ids : List Nat} {hx2 : HX} {w2 : World} {R : Ending → World → Prop}, Facts ⟨Try.prog, w, fun k => k = b ∨ (cap ≠ 0 ∧ abk a = some k), R⟩ m ρ ids ((HX.nil.and (HX.rw 3 141 a cap cap xs)).and hx2) w2 → Cells w2 (sliA a i cap 3) (xs.drop (i * 3)) := fun hf => by
      have := sli_cells (rw_cells hf.x.1.2) i ((cap - i) * 3) cap 3 (by rw [hxl]; omega) (Nat.le_of_eq hxl) (by decide)
      rw [List.take_of_length_le (by rw [hdl]; omega)] at this
      exact this
    refine ⟨?_, ?_⟩
    · refine node_from (l := i + 1) (n := N) (cap := c3) (sz := 3) (some ⟨g3, 0, none⟩) Try.underlying123 (by kernel_rfl) info_se (by intros; kernel_rfl) (fun ids => Eq.trans (b := .int .i64 (IntKind.i64.wrap ((i : Int) + 1))) (by kernel_rfl) (by rw [hwi])) (by omega) (by intros; kernel_rfl) (by kernel_rfl) (by kernel_rfl) (by kernel_rfl) ?_
      refine node_from (l := i) (n := cap) (cap := cap) (sz := 3) a Try.underlying123 (by kernel_rfl) info_se (by intros; kernel_rfl) (by intros; kernel_rfl) (by omega) (by intros; kernel_rfl) (by kernel_rfl) (by kernel_rfl) (by kernel_rfl) ?_
      refine node_copy (sz := 3) (e := 141) rfl Try.underlying123 info_se (by decide) (some ⟨g3, 0, none⟩) N c3 (i + 1) _ (sliA (some ⟨g3, 0, none⟩) (i + 1) c3 3) (N - (i + 1)) (c3 - (i + 1)) (fun _ => sliA a i cap 3) (cap - i) (cap - i) (cap - i) (xs.drop (i * 3)) (by intros; kernel_rfl) (fun ids hp => by kernel_rfl) (fun _ _ => rfl) (Nat.min_eq_left (by omega)) hdl (by omega) hone (fun ids w2 hp hf => hcs2 hf) hdis3 (fun q _ h2 => by cases h2; exact .inl hnew3) (by intros; kernel_rfl) (by kernel_rfl) (by kernel_rfl) (by kernel_rfl) ?_
      rw [hres]
      intro ids w2 hp hf
      subst hN
      exact ⟨some ⟨g3, 0, none⟩, c3, by kernel_rfl, hf.x.2, fun k h1 h2 => by cases h2; exact .inr hnew3, hf.chg.but (same (m := ⟨[], _⟩) hp hf (by kernel_rfl))⟩
    · refine node_from (l := i) (n := cap) (cap := cap) (sz := 3) a Try.underlying123 (by kernel_rfl) info_se (by intros; kernel_rfl) (by intros; kernel_rfl) (by omega) (by intros; kernel_rfl) (by kernel_rfl) (by kernel_rfl) (by kernel_rfl) ?_
      refine node_from (l := i + 1) (n := N) (cap := c3) (sz := 3) (some ⟨g3, 0, none⟩) Try.underlying123 (by kernel_rfl) info_se (by intros; kernel_rfl) (fun ids => Eq.trans (b := .int .i64 (IntKind.i64.wrap ((i : Int) + 1))) (by kernel_rfl) (by rw [hwi])) (by omega) (by intros; kernel_rfl) (by kernel_rfl) (by kernel_rfl) (by kernel_rfl) ?_
      refine node_copy (sz := 3) (e := 141) rfl Try.underlying123 info_se (by decide) (some ⟨g3, 0, none⟩) N c3 (i + 1) _ (sliA (some ⟨g3, 0, none⟩) (i + 1) c3 3) (N - (i + 1)) (c3 - (i + 1)) (fun _ => sliA a i cap 3) (cap - i) (cap - i) (cap - i) (xs.drop (i * 3)) (by intros; kernel_rfl) (fun ids hp => by kernel_rfl) (fun _ _ => rfl) (Nat.min_eq_left (by omega)) hdl (by omega) hone (fun ids w2 hp hf => hcs2 hf) hdis3 (fun q _ h2 => by cases h2; exact .inl hnew3) (by intros; kernel_rfl) (by kernel_rfl) (by kernel_rfl) (by kernel_rfl) ?_
      rw [hres]
      intro ids w2 hp hf
      subst hN
      exact ⟨some ⟨g3, 0, none⟩, c3, by kernel_rfl, hf.x.2, fun k h1 h2 => by cases h2; exact .inr hnew3, hf.chg.but (same (m := ⟨[], _⟩) hp hf (by kernel_rfl))⟩

set_option maxHeartbeats 2000000 in
theorem insk_any (a : Option Addr) (cap n i : Nat) (xs : List Value) (q1 q2 q3 q4 : Int) (b : Nat) (w : World) (H : (HX.rw 4 143 a n cap xs).X w) (hb : Blk w b [Value.int .i64 q1, .int .i64 q2, .int .i64 q3, .int .i64 q4] 143) (hi : i ≤ n) (hn : n ≤ 1000000) (hxo : ∀ u ∈ xs, u.oneCell' = true) (hna : ∀ k, cap ≠ 0 → abk a = some k → k ≠ b) :
    Calls Try.prog 77 #[.slice a n cap, .int .i64 (i : Int), .slice (some ⟨b, 0, none⟩) 1 1] w (RwMut w id 4 143 a cap (n + 1) (xs.take (i * 4) ++ [Value.int .i64 q1, .int .i64 q2, .int .i64 q3, .int .i64 q4] ++ xs.drop (i * 4))) := by
  obtain ⟨us, eus⟩ : ∃ us, us = [Value.int .i64 q1, .int .i64 q2, .int .i64 q3, .int .i64 q4] := ⟨_, rfl⟩
  have hul : us.length = 4 := by rw [eus]; rfl
  have huo : ∀ u ∈ us, u.oneCell' = true := by rw [eus]; intro u hu; simp at hu; rcases hu with rfl | rfl | rfl | rfl <;> rfl
  have hxl := rw_len H
  have hle := rw_le H
  have hwn : IntKind.i64.wrap ((n : Int) + 1) = ((n + 1 : Nat) : Int) := by rw [wrap_i64 (by omega)]; omega
  have hwi : IntKind.i64.wrap ((i : Int) + 1) = ((i + 1 : Nat) : Int) := by rw [wrap_i64 (by omega)]; omega
  have hwk : IntKind.i64.wrap (IntKind.i64.wrap ((n : Int) + 1) - (i : Int)) = ((n + 1 - i : Nat) : Int) := by rw [hwn, wrap_i64 (by omega)]; omega
  have hlt0 : ∀ k, cap ≠ 0 → abk a = some k → k < w.heap.size := fun k h1 h2 => rw_blt H h1 h2
  have hblt : b < w.heap.size := by
    rcases Nat.lt_or_ge b w.heap.size with q | q
    · exact q
    · have h2 : w.heap[b]? = _ := hb
      rw [Array.getElem?_eq_none q] at h2; cases h2
  have same : ∀ {m : Mem} {ρ : Env} {ids : List Nat} {hx : HX} {w2 : World} {R : Ending → World → Prop} {lvs : List LV}, [b] <+: ids → Facts ⟨Try.prog, w, fun k => k = b ∨ (cap ≠ 0 ∧ abk a = some k), R⟩ ⟨[(143, lvs)], m.c⟩ ρ ids hx w2 → cellsDen ρ ids lvs = [Value.int .i64 q1, .int .i64 q2, .int .i64 q3, .int .i64 q4] → w2.heap[b]? = w.heap[b]? := fun hp hf hv => by
    have e0 := hf.blkAt 0 rfl
    rw [idAt0 hp, hv] at e0
    exact e0.trans hb.symm
  rw [← eus]
  by_cases hin : i = n
  · subst hin
    rw [List.take_of_length_le (Nat.le_of_eq hxl), List.drop_of_length_le (Nat.le_of_eq hxl), List.append_nil]
    refine calls_at (tab_ok _) Try.func77 rfl tInsK (ρ := ⟨[(i : Int), q1, q2, q3, q4], [], [], [i, cap], [a]⟩) (ids := [b]) (hx := HX.nil.and (HX.rw 4 143 a i cap xs)) (M := fun k => k = b ∨ (cap ≠ 0 ∧ abk a = some k)) rfl (Facts.initx rfl oneNil hb (by kernel_rfl) (.inl rfl) ⟨trivial, H⟩ (fun k hk => hk.elim (fun q => q.elim) (fun q => ⟨rw_blt H q.1 q.2, hna k q.1 q.2⟩))) ?_
    refine node_from (l := i) (n := i) (cap := cap) (sz := 4) a Try.underlying139 (by kernel_rfl) info_kp (by intros; kernel_rfl) (by intros; kernel_rfl) (Nat.le_refl _) (by intros; kernel_rfl) (by kernel_rfl) (by kernel_rfl) (by kernel_rfl) ?_
    refine br_T ((i : Int) == (i : Int)) (by kernel_rfl) (by simp) ?_
    refine node_pushs (sz := 4) (z := (.agg #[.int .i64 0, .int .i64 0, .int .i64 0, .int .i64 0])) rfl Try.underlying139 info_kp rfl (by decide) a i cap xs us 0 (by intros; kernel_rfl) (by intros; kernel_rfl) rfl (by rw [eus]; intros; kernel_rfl) hul huo (fun k _ _ q => q.elim) (fun k h1 h2 => .inr (.inr ⟨h1, h2⟩)) (by simp only [maxLen]; omega) (by omega) (by intros; kernel_rfl) (by kernel_rfl) (by kernel_rfl) (by intros; kernel_rfl) ?_
    intro a' cap' hc0 _ hwh ids w2 hp hf
    refine ⟨a', cap', by kernel_rfl, hf.x.2, fun k h1 h2 => ?_, hf.chg.but (same (m := ⟨[], _⟩) hp hf (by kernel_rfl))⟩
    rcases hwh with ⟨q1, q2⟩ | ⟨g, q1, q2, q3⟩
    · exact .inl ⟨q1, by rw [← q2]; exact h2⟩
    · rw [q1] at h2; cases h2; exact .inr q2
  have hin2 : i < n := by omega
  have hc0 : cap ≠ 0 := by omega
  obtain ⟨g, cur, ea, hlt, hg, hnc, hcm, hcl, htk⟩ := rw_open H hc0
  have hdl : (xs.drop (i * 4)).length = (n - i) * 4 := by rw [List.length_drop, hxl]; omega
  have htl : (xs.take (i * 4)).length = i * 4 := by rw [List.length_take, hxl]; omega
  have hA : sliA a 0 cap 4 = a := by rw [ea, sliA_in (by omega), Nat.zero_mul]
  have hAi : ∀ l, sliA (sliA a 0 cap 4) l cap 4 = sliA a l cap 4 := fun l => by rw [hA]
  have hone : ∀ u ∈ xs.drop (i * 4), u.oneCell' = true := fun u hu => hxo u (List.mem_of_mem_drop hu)
  by_cases hroom : n + 1 ≤ cap
  · have hmul : (n + 1) * 4 ≤ cap * 4 := Nat.mul_le_mul_right _ hroom
    obtain ⟨T, eT⟩ : ∃ T, T = (cur.drop (n * 4)).take 4 := ⟨_, rfl⟩
    have hTl : T.length = 4 := by rw [eT, List.length_take, List.length_drop, hcl]; omega
    have H2 : (HX.rw 4 143 a (n + 1) cap (xs ++ T)).X w := by
      have := rw_shut hc0 hg hroom hcm hcl
      rw [ea]
      rw [show cur.take ((n + 1) * 4) = xs ++ T by rw [eT, ← htk, Nat.add_mul, Nat.one_mul, List.take_add]] at this
      exact this
    refine calls_at (tab_ok _) Try.func77 rfl tInsK (ρ := ⟨[(i : Int), q1, q2, q3, q4], [], [], [n, cap], [a]⟩) (ids := [b]) (hx := HX.nil.and (HX.rw 4 143 a (n + 1) cap (xs ++ T))) (M := fun k => k = b ∨ (cap ≠ 0 ∧ abk a = some k)) rfl (Facts.initx rfl oneNil hb (by kernel_rfl) (.inl rfl) ⟨trivial, H2⟩ (fun k hk => hk.elim (fun q => q.elim) (fun q => ⟨rw_blt H q.1 q.2, hna k q.1 q.2⟩))) ?_
    refine node_from (l := i) (n := n) (cap := cap) (sz := 4) a Try.underlying139 (by kernel_rfl) info_kp (by intros; kernel_rfl) (by intros; kernel_rfl) (by omega) (by intros; kernel_rfl) (by kernel_rfl) (by kernel_rfl) (by kernel_rfl) ?_
    refine br_F ((i : Int) == (n : Int)) (by kernel_rfl) (beq_eq_false_iff_ne.2 (by omega)) ?_
    refine node_cap rfl Try.underlying139 a n cap (by intros; kernel_rfl) (by intros; kernel_rfl) (by kernel_rfl) (by kernel_rfl) (by kernel_rfl) ?_
    refine br_F (decide (IntKind.i64.wrap ((n : Int) + 1) > (cap : Int))) (by kernel_rfl) (decide_eq_false (by rw [hwn]; omega)) ?_
    refine node_upto (u := n + 1) (n := n) (cap := cap) (sz := 4) a Try.underlying139 (by kernel_rfl) info_kp (by intros; kernel_rfl) (fun ids => Eq.trans (b := .int .i64 (IntKind.i64.wrap ((n : Int) + 1))) (by kernel_rfl) (by rw [hwn])) (fun ids w2 hf => hroom) (by intros; kernel_rfl) (by kernel_rfl) (by kernel_rfl) (by kernel_rfl) ?_
    refine node_from (l := i + 1) (n := n + 1) (cap := cap) (sz := 4) (sliA a 0 cap 4) Try.underlying139 (by kernel_rfl) info_kp (by intros; kernel_rfl) (fun ids => Eq.trans (b := .int .i64 (IntKind.i64.wrap ((i : Int) + 1))) (by kernel_rfl) (by rw [hwi])) (by omega) (by intros; kernel_rfl) (by kernel_rfl) (by kernel_rfl) (by kernel_rfl) ?_
    have hps : a.isSome = true := by rw [ea]; rfl
    refine node_extw (g := 88) (e := Extern.SlicesOverlaps.overlaps #[139, 139] #[4]) (V := .bool false) (fun ids => #[.slice (some ⟨idAt ids 0, 0, none⟩) 1 1, .slice (sliA (sliA a 0 cap 4) (i + 1) cap 4) (n + 1 - (i + 1)) (cap - (i + 1))]) ⟨[], [false], [], [], []⟩ (fn := Try.prog.funcs[88]!) (by kernel_rfl) (by kernel_rfl) (by kernel_rfl) (by kernel_rfl) (by kernel_rfl) (by intros; kernel_rfl) (fun ids w2 hp hf => ?_) (by intros; kernel_rfl) (by kernel_rfl) (by kernel_rfl) (by kernel_rfl) oneNil ?_
    · rw [hAi, ea, sliA_in (by omega)]
      obtain ⟨g2, cur2, ea2, hlt2, hg2, _, _, hcl2, _⟩ := rw_open hf.x.2 hc0
      have e0 := hf.blkAt 0 rfl
      rw [idAt0 hp] at e0 ⊢
      have hgg : g2 = g := by rw [ea] at ea2; cases ea2; rfl
      subst hgg
      have hb2 : w2.heap[b]? = _ := e0
      refine Go.Lib.run_overlaps_apart w2 139 4 143 Try.underlying139 4 (fun w3 => by
        obtain ⟨i0, hi0, hz0, hz1, hz2⟩ := info_parts info_kp
        simp [sizeOf, typeInfo, hi0, hz1]) ⟨b, 0, none⟩ ⟨g2, (i + 1) * 4, none⟩ 1 1 _ _ (fun q => hna g2 hc0 (by rw [ea]; rfl) q.symm) 143 143 4 (cap * 4) ?_ ?_ (by omega) ?_ ?_
      · simp only [World.shape?, hb2]; kernel_rfl
      · simp only [World.shape?, hg2]; rw [← hcl2]; simp
      · simp only [World.frozen?, hb2]; rfl
      · simp only [World.frozen?, hb2]; rfl
    refine br_t (by kernel_rfl) ?_
    have hcs1 : ∀ {m : Mem} {ρ : Env} {ids : List Nat} {w2 : World} {R : Ending → World → Prop} {ys : List Value}, Facts ⟨Try.prog, w, fun k => k = b ∨ (cap ≠ 0 ∧ abk a = some k), R⟩ m ρ ids (HX.nil.and (HX.rw 4 143 a (n + 1) cap (xs ++ T))) w2 → Cells w2 (sliA (sliA a 0 cap 4) i cap 4) (xs.drop (i * 4)) := fun hf => by
      rw [hAi]
      have := sli_cells (rw_cells hf.x.2) i ((n - i) * 4) cap 4 (by rw [List.length_append, hxl]; omega) (by rw [List.length_append, hxl, hTl]; omega) (by decide)
      rw [List.drop_append_of_le_length (by rw [hxl]; omega), List.take_append_of_le_length (by rw [hdl]; omega), List.take_of_length_le (by rw [hdl]; omega)] at this
      exact this
    have hres : spl (spl (xs ++ T) ((i + 1) * 4) (xs.drop (i * 4))) (i * 4) us = xs.take (i * 4) ++ us ++ xs.drop (i * 4) := by
      have := ins_in (P := xs.take (i * 4)) (Q := xs.drop (i * 4)) (T := T) (us := us) (by rw [hul, hTl])
      rw [htl, hul, List.take_append_drop] at this
      rw [show (i + 1) * 4 = i * 4 + 4 by omega]; exact this
    refine ⟨?_, ?_⟩
    · refine node_from (l := i + 1) (n := n + 1) (cap := cap) (sz := 4) (sliA a 0 cap 4) Try.underlying139 (by kernel_rfl) info_kp (by intros; kernel_rfl) (fun ids => Eq.trans (b := .int .i64 (IntKind.i64.wrap ((i : Int) + 1))) (by kernel_rfl) (by rw [hwi])) (by omega) (by intros; kernel_rfl) (by kernel_rfl) (by kernel_rfl) (by kernel_rfl) ?_
      refine node_from (l := i) (n := n + 1) (cap := cap) (sz := 4) (sliA a 0 cap 4) Try.underlying139 (by kernel_rfl) info_kp (by intros; kernel_rfl) (by intros; kernel_rfl) (by omega) (by intros; kernel_rfl) (by kernel_rfl) (by kernel_rfl) (by kernel_rfl) ?_
      refine node_copy (sz := 4) (e := 143) rfl Try.underlying139 info_kp (by decide) a (n + 1) cap (i + 1) (xs ++ T) (sliA (sliA a 0 cap 4) (i + 1) cap 4) (n + 1 - (i + 1)) (cap - (i + 1)) (fun _ => sliA (sliA a 0 cap 4) i cap 4) (n + 1 - i) (cap - i) (n - i) (xs.drop (i * 4)) (by intros; kernel_rfl) (fun ids hp => by kernel_rfl) (fun _ _ => hAi _) (by show min _ _ = _; omega) hdl (by omega) hone (fun ids w2 hp hf => hcs1 (ys := xs) hf) (fun q _ _ z => z.elim) (fun k h1 h2 => .inr (.inr ⟨h1, h2⟩)) (by intros; kernel_rfl) (by kernel_rfl) (by kernel_rfl) (by kernel_rfl) ?_
      refine node_from (l := i) (n := n + 1) (cap := cap) (sz := 4) (sliA a 0 cap 4) Try.underlying139 (by kernel_rfl) info_kp (by intros; kernel_rfl) (by intros; kernel_rfl) (by omega) (by intros; kernel_rfl) (by kernel_rfl) (by kernel_rfl) (by kernel_rfl) ?_
      refine node_copy (sz := 4) (e := 143) rfl Try.underlying139 info_kp (by decide) a (n + 1) cap i _ (sliA (sliA a 0 cap 4) i cap 4) (n + 1 - i) (cap - i) (fun ids => some ⟨idAt ids 0, 0, none⟩) 1 1 1 us (by intros; kernel_rfl) (fun ids hp => by kernel_rfl) (fun _ _ => hAi _) (Nat.min_eq_left (by omega)) (by rw [hul]) (by omega) huo (fun ids w2 hp hf => by rw [eus]; exact blk_cells (hf.blkAt 0 rfl)) (fun q _ _ z => z.elim) (fun k h1 h2 => .inr (.inr ⟨h1, h2⟩)) (by intros; kernel_rfl) (by kernel_rfl) (by kernel_rfl) (by kernel_rfl) ?_
      rw [hres]
      intro ids w2 hp hf
      exact ⟨a, cap, Eq.trans (b := .returned (.slice (sliA a 0 cap 4) (n + 1) cap)) (by kernel_rfl) (by rw [hA]; rfl), hf.x.2, fun k h1 h2 => .inl ⟨h1, h2⟩, hf.chg.but (same (m := ⟨[], _⟩) hp hf (by kernel_rfl))⟩
    · refine node_from (l := i) (n := n + 1) (cap := cap) (sz := 4) (sliA a 0 cap 4) Try.underlying139 (by kernel_rfl) info_kp (by intros; kernel_rfl) (by intros; kernel_rfl) (by omega) (by intros; kernel_rfl) (by kernel_rfl) (by kernel_rfl) (by kernel_rfl) ?_
      refine node_from (l := i + 1) (n := n + 1) (cap := cap) (sz := 4) (sliA a 0 cap 4) Try.underlying139 (by kernel_rfl) info_kp (by intros; kernel_rfl) (fun ids => Eq.trans (b := .int .i64 (IntKind.i64.wrap ((i : Int) + 1))) (by kernel_rfl) (by rw [hwi])) (by omega) (by intros; kernel_rfl) (by kernel_rfl) (by kernel_rfl) (by kernel_rfl) ?_
      refine node_copy (sz := 4) (e := 143) rfl Try.underlying139 info_kp (by decide) a (n + 1) cap (i + 1) (xs ++ T) (sliA (sliA a 0 cap 4) (i + 1) cap 4) (n + 1 - (i + 1)) (cap - (i + 1)) (fun _ => sliA (sliA a 0 cap 4) i cap 4) (n + 1 - i) (cap - i) (n - i) (xs.drop (i * 4)) (by intros; kernel_rfl) (fun ids hp => by kernel_rfl) (fun _ _ => hAi _) (by show min _ _ = _; omega) hdl (by omega) hone (fun ids w2 hp hf => hcs1 (ys := xs) hf) (fun q _ _ z => z.elim) (fun k h1 h2 => .inr (.inr ⟨h1, h2⟩)) (by intros; kernel_rfl) (by kernel_rfl) (by kernel_rfl) (by kernel_rfl) ?_
      refine node_from (l := i) (n := n + 1) (cap := cap) (sz := 4) (sliA a 0 cap 4) Try.underlying139 (by kernel_rfl) info_kp (by intros; kernel_rfl) (by intros; kernel_rfl) (by omega) (by intros; kernel_rfl) (by kernel_rfl) (by kernel_rfl) (by kernel_rfl) ?_
      refine node_copy (sz := 4) (e := 143) rfl Try.underlying139 info_kp (by decide) a (n + 1) cap i _ (sliA (sliA a 0 cap 4) i cap 4) (n + 1 - i) (cap - i) (fun ids => some ⟨idAt ids 0, 0, none⟩) 1 1 1 us (by intros; kernel_rfl) (fun ids hp => by kernel_rfl) (fun _ _ => hAi _) (Nat.min_eq_left (by omega)) (by rw [hul]) (by omega) huo (fun ids w2 hp hf => by rw [eus]; exact blk_cells (hf.blkAt 0 rfl)) (fun q _ _ z => z.elim) (fun k h1 h2 => .inr (.inr ⟨h1, h2⟩)) (by intros; kernel_rfl) (by kernel_rfl) (by kernel_rfl) (by kernel_rfl) ?_
      rw [hres]
      intro ids w2 hp hf
      exact ⟨a, cap, Eq.trans (b := .returned (.slice (sliA a 0 cap 4) (n + 1) cap)) (by kernel_rfl) (by rw [hA]; rfl), hf.x.2, fun k h1 h2 => .inl ⟨h1, h2⟩, hf.chg.but (same (m := ⟨[], _⟩) hp hf (by kernel_rfl))⟩
  · obtain rfl : cap = n := by omega
    refine calls_at (tab_ok _) Try.func77 rfl tInsK (ρ := ⟨[(i : Int), q1, q2, q3, q4], [], [], [cap, cap], [a]⟩) (ids := [b]) (hx := HX.nil.and (HX.rw 4 143 a cap cap xs)) (M := fun k => k = b ∨ (cap ≠ 0 ∧ abk a = some k)) rfl (Facts.initx rfl oneNil hb (by kernel_rfl) (.inl rfl) ⟨trivial, H⟩ (fun k hk => hk.elim (fun q => q.elim) (fun q => ⟨rw_blt H q.1 q.2, hna k q.1 q.2⟩))) ?_
    refine node_from (l := i) (n := cap) (cap := cap) (sz := 4) a Try.underlying139 (by kernel_rfl) info_kp (by intros; kernel_rfl) (by intros; kernel_rfl) (by omega) (by intros; kernel_rfl) (by kernel_rfl) (by kernel_rfl) (by kernel_rfl) ?_
    refine br_F ((i : Int) == (cap : Int)) (by kernel_rfl) (beq_eq_false_iff_ne.2 (by omega)) ?_
    refine node_cap rfl Try.underlying139 a cap cap (by intros; kernel_rfl) (by intros; kernel_rfl) (by kernel_rfl) (by kernel_rfl) (by kernel_rfl) ?_
    refine br_T (decide (IntKind.i64.wrap ((cap : Int) + 1) > (cap : Int))) (by kernel_rfl) (decide_eq_true (by rw [hwn]; omega)) ?_
    refine node_upto (u := i) (n := cap) (cap := cap) (sz := 4) a Try.underlying139 (by kernel_rfl) info_kp (by intros; kernel_rfl) (by intros; kernel_rfl) (fun ids w2 hf => hi) (by intros; kernel_rfl) (by kernel_rfl) (by kernel_rfl) (by kernel_rfl) ?_
    refine node_zeros (sz := 4) (z := (.agg #[.int .i64 0, .int .i64 0, .int .i64 0, .int .i64 0])) rfl Try.underlying139 (by kernel_rfl) info_kp rfl (by decide) (by intro v hv; simp [Value.cells] at hv; rcases hv with rfl | rfl | rfl | rfl <;> rfl) (sliA a 0 cap 4) i cap (cap + 1 - i) (xs.take (i * 4)) (by omega) (by omega) htl (fun u hu => hxo u (List.mem_of_mem_take hu)) (fun ids w2 hp hf => ?_) (by omega) (by decide) (by intros; kernel_rfl) (fun ids => Eq.trans (b := .int .i64 (IntKind.i64.wrap (IntKind.i64.wrap ((cap : Int) + 1) - (i : Int)))) (by kernel_rfl) (by rw [hwk])) (by intros; kernel_rfl) (by kernel_rfl) (by kernel_rfl) (by intros; kernel_rfl) ?_
    · have := sli_cells (rw_cells hf.x.2) 0 (i * 4) cap 4 (by omega) (Nat.le_of_eq hxl) (by decide)
      rw [Nat.zero_mul, List.drop_zero] at this
      exact this
    intro g3 c3 hc3 hge3 hnew3 hnF3
    obtain ⟨N, eN⟩ : ∃ N, N = i + (cap + 1 - i) := ⟨_, rfl⟩
    have hN : N = cap + 1 := by omega
    obtain ⟨Z, eZ⟩ : ∃ Z, Z = (Builtin.zeroCells (Value.cells (.agg #[.int .i64 0, .int .i64 0, .int .i64 0, .int .i64 0])) (cap + 1 - i)).toList := ⟨_, rfl⟩
    have hZl : Z.length = (cap + 1 - i) * 4 := by rw [eZ, zeroCells_len]; rfl
    rw [← eZ, ← eN]
    have hdis3 : ∀ q, c3 ≠ 0 → abk (some (⟨g3, 0, none⟩ : Addr)) = some q → ¬ (HX.nil.and (HX.rw 4 143 a cap cap xs)).F q := fun q _ h2 => by cases h2; exact hnF3
    refine node_from (l := i) (n := N) (cap := c3) (sz := 4) (some ⟨g3, 0, none⟩) Try.underlying139 (by kernel_rfl) info_kp (by intros; kernel_rfl) (by intros; kernel_rfl) (by omega) (by intros; kernel_rfl) (by kernel_rfl) (by kernel_rfl) (by kernel_rfl) ?_
    refine node_copy (sz := 4) (e := 143) rfl Try.underlying139 info_kp (by decide) (some ⟨g3, 0, none⟩) N c3 i (xs.take (i * 4) ++ Z) (sliA (some ⟨g3, 0, none⟩) i c3 4) (N - i) (c3 - i) (fun ids => some ⟨idAt ids 0, 0, none⟩) 1 1 1 us (by intros; kernel_rfl) (fun ids hp => by kernel_rfl) (fun _ _ => rfl) (Nat.min_eq_left (by omega)) (by rw [hul]) (by omega) huo (fun ids w2 hp hf => ?_) hdis3 (fun q _ h2 => by cases h2; exact .inl hnew3) (by intros; kernel_rfl) (by kernel_rfl) (by kernel_rfl) (by kernel_rfl) ?_
    · have e0 := hf.blkAt 0 rfl
      rw [eus]; exact blk_cells e0
    have hres : spl (spl (xs.take (i * 4) ++ Z) (i * 4) us) ((i + 1) * 4) (xs.drop (i * 4)) = xs.take (i * 4) ++ us ++ xs.drop (i * 4) := by
      have := ins_new (P := xs.take (i * 4)) (Q := xs.drop (i * 4)) (Z := Z) (us := us) (by rw [hZl, hul, hdl]; omega)
      rw [htl, hul] at this
      rw [show (i + 1) * 4 = i * 4 + 4 by omega]; exact this
    have hcs2 : ∀ {m : Mem} {ρ : Env} {ids : List Nat} {hx2 : HX} {w2 : World} {R : Ending → World → Prop}, Facts ⟨Try.prog, w, fun k => k = b ∨ (cap ≠ 0 ∧ abk a = some k), R⟩ m ρ ids ((HX.nil.and (HX.rw 4 143 a cap cap xs)).and hx2) w2 → Cells w2 (sliA a i cap 4) (xs.drop (i * 4)) := fun hf => by
      have := sli_cells (rw_cells hf.x.1.2) i ((cap - i) * 4) cap 4 (by rw [hxl]; omega) (Nat.le_of_eq hxl) (by decide)
      rw [List.take_of_length_le (by rw [hdl]; omega)] at this
      exact this
    refine ⟨?_, ?_⟩
    · refine node_from (l := i + 1) (n := N) (cap := c3) (sz := 4) (some ⟨g3, 0, none⟩) Try.underlying139 (by kernel_rfl) info_kp (by intros; kernel_rfl) (fun ids => Eq.trans (b := .int .i64 (IntKind.i64.wrap ((i : Int) + 1))) (by kernel_rfl) (by rw [hwi])) (by omega) (by intros; kernel_rfl) (by kernel_rfl) (by kernel_rfl) (by kernel_rfl) ?_
      refine node_from (l := i) (n := cap) (cap := cap) (sz := 4) a Try.underlying139 (by kernel_rfl) info_kp (by intros; kernel_rfl) (by intros; kernel_rfl) (by omega) (by intros; kernel_rfl) (by kernel_rfl) (by kernel_rfl) (by kernel_rfl) ?_
      refine node_copy (sz := 4) (e := 143) rfl Try.underlying139 info_kp (by decide) (some ⟨g3, 0, none⟩) N c3 (i + 1) _ (sliA (some ⟨g3, 0, none⟩) (i + 1) c3 4) (N - (i + 1)) (c3 - (i + 1)) (fun _ => sliA a i cap 4) (cap - i) (cap - i) (cap - i) (xs.drop (i * 4)) (by intros; kernel_rfl) (fun ids hp => by kernel_rfl) (fun _ _ => rfl) (Nat.min_eq_left (by omega)) hdl (by omega) hone (fun ids w2 hp hf => hcs2 hf) hdis3 (fun q _ h2 => by cases h2; exact .inl hnew3) (by intros; kernel_rfl) (by kernel_rfl) (by kernel_rfl) (by kernel_rfl) ?_
      rw [hres]
      intro ids w2 hp hf
      subst hN
      exact ⟨some ⟨g3, 0, none⟩, c3, by kernel_rfl, hf.x.2, fun k h1 h2 => by cases h2; exact .inr hnew3, hf.chg.but (same (m := ⟨[], _⟩) hp hf (by kernel_rfl))⟩
    · refine node_from (l := i) (n := cap) (cap := cap) (sz := 4) a Try.underlying139 (by kernel_rfl) info_kp (by intros; kernel_rfl) (by intros; kernel_rfl) (by omega) (by intros; kernel_rfl) (by kernel_rfl) (by kernel_rfl) (by kernel_rfl) ?_
      refine node_from (l := i + 1) (n := N) (cap := c3) (sz := 4) (some ⟨g3, 0, none⟩) Try.underlying139 (by kernel_rfl) info_kp (by intros; kernel_rfl) (fun ids => Eq.trans (b := .int .i64 (IntKind.i64.wrap ((i : Int) + 1))) (by kernel_rfl) (by rw [hwi])) (by omega) (by intros; kernel_rfl) (by kernel_rfl) (by kernel_rfl) (by kernel_rfl) ?_
      refine node_copy (sz := 4) (e := 143) rfl Try.underlying139 info_kp (by decide) (some ⟨g3, 0, none⟩) N c3 (i + 1) _ (sliA (some ⟨g3, 0, none⟩) (i + 1) c3 4) (N - (i + 1)) (c3 - (i + 1)) (fun _ => sliA a i cap 4) (cap - i) (cap - i) (cap - i) (xs.drop (i * 4)) (by intros; kernel_rfl) (fun ids hp => by kernel_rfl) (fun _ _ => rfl) (Nat.min_eq_left (by omega)) hdl (by omega) hone (fun ids w2 hp hf => hcs2 hf) hdis3 (fun q _ h2 => by cases h2; exact .inl hnew3) (by intros; kernel_rfl) (by kernel_rfl) (by kernel_rfl) (by kernel_rfl) ?_
      rw [hres]
      intro ids w2 hp hf
      subst hN
      exact ⟨some ⟨g3, 0, none⟩, c3, by kernel_rfl, hf.x.2, fun k h1 h2 => by cases h2; exact .inr hnew3, hf.chg.but (same (m := ⟨[], _⟩) hp hf (by kernel_rfl))⟩
end Go.Proofs.Ytbedoemdjlollaa

namespace Go.Proofs.Ytbedoemdjlollaa
open Go.ChangeShapes Go.WideShapes Go.ChangeAt Go.RowKit Go.Syn Go.Eng
set_option linter.unusedVariables false
set_option linter.unusedSimpArgs false
set_option maxRecDepth 100000
def insAt {α : Type} (l : List α) (i : Nat) (x : α) : List α := l.take i ++ x :: l.drop i
theorem insAt_len {α : Type} {l : List α} {i : Nat} (x : α) (h : i ≤ l.length) : (insAt l i x).length = l.length + 1 := by
  unfold insAt
  simp only [List.length_append, List.length_cons, List.length_take, List.length_drop]; omega
theorem insAt_get {α : Type} {l : List α} {i : Nat} (x : α) (h : i ≤ l.length) (j : Nat) : (insAt l i x)[j]? = if j < i then l[j]? else if j = i then some x else l[j - 1]? := by
  unfold insAt
  have hl : (l.take i).length = i := by rw [List.length_take]; omega
  by_cases h1 : j < i
  · rw [if_pos h1, List.getElem?_append_left (by omega), List.getElem?_take, if_pos h1]
  · rw [if_neg h1, List.getElem?_append_right (by omega), hl]
    by_cases h2 : j = i
    · rw [if_pos h2, h2, Nat.sub_self]; rfl
    · rw [if_neg h2]
      obtain ⟨d, hd⟩ : ∃ d, j - i = d + 1 := ⟨j - i - 1, by omega⟩
      rw [hd, List.getElem?_cons_succ, List.getElem?_drop]
      congr 1; omega
theorem insAt_mem {α : Type} {l : List α} {i : Nat} {x y : α} : y ∈ insAt l i x ↔ y ∈ l ∨ y = x := by
  unfold insAt
  rw [List.mem_append, List.mem_cons]
  constructor
  · rintro (h | h | h)
    · exact .inl (List.mem_of_mem_take h)
    · exact .inr h
    · exact .inl (List.mem_of_mem_drop h)
  · rintro (h | h)
    · rw [← List.take_append_drop i l, List.mem_append] at h
      exact h.elim .inl fun q => .inr (.inr q)
    · exact .inr (.inl h)
theorem insAt_map {α β : Type} (f : α → β) (l : List α) (i : Nat) (x : α) : (insAt l i x).map f = insAt (l.map f) i (f x) := by
  unfold insAt
  rw [List.map_append, List.map_cons, List.map_take, List.map_drop]
theorem insAt_flat {α : Type} {f : α → List Value} {n : Nat} (hf : ∀ x, (f x).length = n) (l : List α) (i : Nat) (x : α) : (insAt l i x).flatMap f = (l.flatMap f).take (i * n) ++ f x ++ (l.flatMap f).drop (i * n) := by
  unfold insAt
  rw [List.flatMap_append, List.flatMap_cons, flat_take hf, flat_drop hf, List.append_assoc]
def nosT (t : List SsD) : List Int := t.map SsD.no
def seqsK (l : List KpD) : List Int := l.map KpD.seq
def tabS (t : List SsD) (sess : Int) : List SsD := if hitI (nosT t) sess then t else insAt t (posI (nosT t) sess) ⟨sess, 0, []⟩
def updS (ack : Int) (s : SsD) : SsD := ⟨s.no, max s.ack ack, s.kept.filter (live (max s.ack ack))⟩
structure AskR where
  t : List SsD
  k : Int
  re : Int
  im : Int
  d : Bool
def askS (t2 : List SsD) (s : SsD) (seq : Int) : AskR :=
  if seq ≤ s.ack then ⟨t2, 4, 0, 0, true⟩ else
  if hitI (seqsK s.kept) seq then
    match s.kept[posI (seqsK s.kept) seq]? with
    | none => ⟨t2, 0, 0, 0, true⟩
    | some k => ⟨t2, k.kind, k.re, k.im, true⟩
  else if 8 ≤ s.kept.length then ⟨t2, 6, 0, 0, true⟩ else ⟨t2, 0, 0, 0, false⟩
def askV (t : List SsD) (sess seq ack : Int) : AskR :=
  if hitI (nosT t) sess = false ∧ 16 ≤ t.length then ⟨t, 5, 0, 0, true⟩ else
  match (tabS t sess)[posI (nosT t) sess]? with
  | none => ⟨t, 0, 0, 0, true⟩
  | some s => askS ((tabS t sess).set (posI (nosT t) sess) (updS ack s)) (updS ack s) seq
def keepV (t : List SsD) (sess seq k re im : Int) : List SsD :=
  if hitI (nosT t) sess = false then t else
  match t[posI (nosT t) sess]? with
  | none => t
  | some s => if hitI (seqsK s.kept) seq = true ∨ seq ≤ s.ack ∨ 8 ≤ s.kept.length then t else t.set (posI (nosT t) sess) ⟨s.no, s.ack, insAt s.kept (posI (seqsK s.kept) seq) ⟨seq, k, re, im⟩⟩
theorem pos_le (ks : List Int) (t : Int) : posI ks t ≤ ks.length := (List.takeWhile_sublist _).length_le
theorem hit_iff {ks : List Int} {t : Int} : hitI ks t = true ↔ ks[posI ks t]? = some t := by unfold hitI; exact decide_eq_true_iff
theorem rise_pw {ks : List Int} : Rise ks ↔ ks.Pairwise (· < ·) := by
  rw [List.pairwise_iff_getElem]
  constructor
  · intro h i j hi hj hij
    exact h i j _ _ hij (List.getElem?_eq_getElem hi) (List.getElem?_eq_getElem hj)
  · intro h i j x y hij hx hy
    obtain ⟨hi, rfl⟩ := List.getElem?_eq_some_iff.1 hx
    obtain ⟨hj, rfl⟩ := List.getElem?_eq_some_iff.1 hy
    exact h i j hi hj hij
theorem rise_filter {l : List KpD} (h : Rise (seqsK l)) (p : KpD → Bool) : Rise (seqsK (l.filter p)) := by
  rw [rise_pw] at h ⊢
  unfold seqsK at h ⊢
  rw [List.pairwise_map] at h ⊢
  exact h.filter p
theorem tabS_at (t : List SsD) (sess : Int) : ∃ s, (tabS t sess)[posI (nosT t) sess]? = some s ∧ s.no = sess ∧ (hitI (nosT t) sess = true → t[posI (nosT t) sess]? = some s) ∧ (hitI (nosT t) sess = false → s = ⟨sess, 0, []⟩) := by
  have hle : posI (nosT t) sess ≤ t.length := by
    have := pos_le (nosT t) sess
    unfold nosT at this ⊢
    rwa [List.length_map] at this
  unfold tabS
  by_cases h : hitI (nosT t) sess = true
  · rw [if_pos h]
    have h2 := hit_iff.1 h
    have h3 : (t.map SsD.no)[posI (nosT t) sess]? = some sess := h2
    rw [List.getElem?_map] at h3
    cases h4 : t[posI (nosT t) sess]? with
    | none => rw [h4] at h3; cases h3
    | some s =>
      rw [h4] at h3
      simp only [Option.map_some, Option.some.injEq] at h3
      exact ⟨s, rfl, h3, fun _ => rfl, fun q => by rw [h] at q; cases q⟩
  · rw [if_neg h]
    refine ⟨⟨sess, 0, []⟩, ?_, rfl, fun q => absurd q h, fun _ => rfl⟩
    rw [insAt_get _ hle, if_neg (Nat.lt_irrefl _), if_pos rfl]
theorem erase_mem {α : Type} {l : List α} {i : Nat} {x : α} (h : x ∈ l.eraseIdx i) : ∃ j, j ≠ i ∧ l[j]? = some x := by
  obtain ⟨j, hj⟩ := List.mem_iff_getElem?.1 h
  rw [List.getElem?_eraseIdx] at hj
  split at hj
  · exact ⟨j, by omega, hj⟩
  · exact ⟨j + 1, by omega, hj⟩
theorem Dj.one {a : Option Addr} {c : Nat} {es : List SE} {i : Nat} {e : SE} (h : Dj a c es) (he : es[i]? = some e) : ∀ k, (kRow e).F k → ¬ (ksR (es.eraseIdx i)).F k ∧ ¬ (tRow a c es).F k := fun k hk => ⟨by
  rintro ⟨x, hx, hq⟩
  obtain ⟨j, hj, hxj⟩ := erase_mem hx
  exact h.two i j e x (fun q => hj q.symm) he hxj k hk hq, h.tab e (List.mem_of_getElem? he) k hk⟩
theorem Dj.row {a : Option Addr} {c : Nat} {es : List SE} (h : Dj a c es) : ∀ k, (tRow a c es).F k → ¬ (ksR es).F k := by
  rintro k hk ⟨x, hx, hq⟩
  exact h.tab x hx k hq hk
theorem set_erase {α : Type} (l : List α) (i : Nat) (x : α) : (l.set i x).eraseIdx i = l.eraseIdx i := List.eraseIdx_set_eq ..
theorem Dj.set {a : Option Addr} {c : Nat} {es : List SE} {i : Nat} {e e' : SE} (h : Dj a c es) (he : es[i]? = some e) (h1 : ∀ k, (kRow e').F k → ¬ (ksR (es.eraseIdx i)).F k ∧ ¬ (tRow a c es).F k) : Dj a c (es.set i e') := by
  have hi : i < es.length := (List.getElem?_eq_some_iff.1 he).1
  have old : ∀ {j : Nat} {x : SE}, j ≠ i → (es.set i e')[j]? = some x → es[j]? = some x := fun hj hx => by rwa [List.getElem?_set_ne (fun q => hj q.symm)] at hx
  have new : ∀ {x : SE}, (es.set i e')[i]? = some x → x = e' := fun hx => by
    rw [List.getElem?_set_self hi] at hx; cases hx; rfl
  have inE : ∀ {j : Nat} {x : SE}, j ≠ i → es[j]? = some x → x ∈ es.eraseIdx i := fun {j x} hj hx => by
    refine List.mem_iff_getElem?.2 ?_
    rcases Nat.lt_or_ge j i with q | q
    · exact ⟨j, by rw [List.getElem?_eraseIdx, if_pos q]; exact hx⟩
    · exact ⟨j - 1, by rw [List.getElem?_eraseIdx, if_neg (by omega), show j - 1 + 1 = j by omega]; exact hx⟩
  refine ⟨fun x y p q hxy hp hq k hk1 hk2 => ?_, fun x hx k hk => ?_⟩
  · by_cases hx : x = i
    · subst hx
      have := new hp; subst this
      have hy : y ≠ x := fun z => hxy z.symm
      exact (h1 k hk1).1 ⟨q, inE hy (old hy hq), hk2⟩
    · have hp2 := old hx hp
      by_cases hy : y = i
      · subst hy
        have := new hq; subst this
        exact (h1 k hk2).1 ⟨p, inE hx hp2, hk1⟩
      · exact h.two x y p q hxy hp2 (old hy hq) k hk1 hk2
  · rcases List.mem_or_eq_of_mem_set hx with hx | hx
    · exact h.tab x hx k hk
    · subst hx; exact (h1 k hk).2
theorem ksR_set {es : List SE} {i : Nat} {e e' : SE} (he : es[i]? = some e) : ksR (es.set i e') = (ksR (es.eraseIdx i)).and (kRow e') := by
  have hi : i < es.length := (List.getElem?_eq_some_iff.1 he).1
  rw [ksR_split (List.getElem?_set_self hi), set_erase]
def seNew (sess : Int) : SE := ⟨⟨sess, 0, []⟩, none, 0⟩
theorem kRow_new (sess : Int) : (∀ k, ¬ (kRow (seNew sess)).F k) ∧ ∀ w, (kRow (seNew sess)).X w := ⟨fun k h => h.1 rfl, fun w => HX.rw_nil _ _ _ _⟩
theorem ksR_ins (es : List SE) (i : Nat) (sess : Int) : ksR (insAt es i (seNew sess)) = ksR es := HX.ext (by
    funext k
    refine propext ⟨?_, ?_⟩
    · rintro ⟨x, hx, hk⟩
      rcases insAt_mem.1 hx with hx | hx
      · exact ⟨x, hx, hk⟩
      · rw [hx] at hk; exact absurd hk ((kRow_new sess).1 k)
    · rintro ⟨x, hx, hk⟩
      exact ⟨x, insAt_mem.2 (.inl hx), hk⟩) (by
    funext w
    refine propext ⟨fun h x hx => h x (insAt_mem.2 (.inl hx)), fun h x hx => ?_⟩
    rcases insAt_mem.1 hx with hx | hx
    · exact h x hx
    · rw [hx]; exact (kRow_new sess).2 w)
theorem Dj.ins {a a' : Option Addr} {c c' : Nat} {es : List SE} {i : Nat} {sess : Int} (h : Dj a c es) (hi : i ≤ es.length) (h1 : ∀ k, c' ≠ 0 → abk a' = some k → ¬ (ksR es).F k) : Dj a' c' (insAt es i (seNew sess)) := by
  have key : ∀ {j : Nat} {x : SE} {k : Nat}, (insAt es i (seNew sess))[j]? = some x → (kRow x).F k → j ≠ i ∧ es[if j < i then j else j - 1]? = some x := fun {j x k} hx hk => by
    rw [insAt_get _ hi] at hx
    split at hx
    · rename_i q; rw [if_pos q]; exact ⟨by omega, hx⟩
    · rename_i q
      split at hx
      · cases hx; exact absurd hk ((kRow_new sess).1 k)
      · rename_i q2; rw [if_neg q]; exact ⟨q2, hx⟩
  refine ⟨fun x y p q hxy hp hq k hk1 hk2 => ?_, fun x hx k hk hF => ?_⟩
  · obtain ⟨n1, e1⟩ := key hp hk1
    obtain ⟨n2, e2⟩ := key hq hk2
    refine h.two _ _ p q ?_ e1 e2 k hk1 hk2
    split <;> split <;> omega
  · rcases insAt_mem.1 hx with hx | hx
    · exact h1 k hF.1 hF.2 ⟨x, hx, hk⟩
    · rw [hx] at hk; exact (kRow_new sess).1 k hk
section
variable {C : Cfg} {ρ : Env} {pre : List Nat} {rest hx : HX} {L : Stack} {m m' : Mem} {args : List SV} {r : SV} {t : Tree}
theorem node_del {f bn : Nat} {a : Option Addr} {cap n : Nat} {xs : List Value} {pc : Value} {cs : List LV} (l : List KpD) (AS : List Nat → Array Value) (hargs : ∀ ids, (args.map (SV.den ρ ids)).toArray = AS ids) (hn : m.hp[bn]? = some (149, cs)) (hcs : ∀ ids, cellsDen (ρ.add ⟨[], [], [], [l.length, cap], [a]⟩) ids cs = [pc])
    (hcall : ∀ ids w, pre <+: ids → Facts C m ρ ids (rest.and (HX.rw 4 143 a n cap xs)) w → Calls C.P f (AS ids) w (DelR w a cap (idAt ids bn) pc l))
    (hdis : ∀ q, cap ≠ 0 → abk a = some q → ¬ rest.F q) (hM : ∀ q, cap ≠ 0 → abk a = some q → C.W.heap.size ≤ q ∨ C.M q)
    (hr : ∀ ids, r.den (ρ.add ⟨[], [], [], [l.length, cap], [a]⟩) ids = .slice a l.length cap) (hhp : m'.hp = m.hp.set bn (149, cs)) (hfit : hpFits m.c m.hp.length m.hp = true) (hc : (ρ.add ⟨[], [], [], [l.length, cap], [a]⟩).cnt = m'.c)
    (h : t.holds C (ρ.add ⟨[], [], [], [l.length, cap], [a]⟩) pre (rest.and (HX.rw 4 143 a l.length cap (kcells l))) L) : (Tree.call f args m r m' t).holds C ρ pre (rest.and (HX.rw 4 143 a n cap xs)) L := by
  intro ids w hp hf
  rw [hargs]
  refine (hcall ids w hp hf).mono ?_
  rintro e2 w' ⟨rfl, hX, hb, hch⟩
  have hlt : bn < ids.length := by
    rw [hf.len]
    rcases Nat.lt_or_ge bn m.hp.length with q | q
    · exact q
    · rw [List.getElem?_eq_none q] at hn; cases hn
  have hb2 : w'.heap[idAt ids bn]? = some (.cells (cellsDen (ρ.add ⟨[], [], [], [l.length, cap], [a]⟩) ids cs).toArray 149 (0, 0)) := by rw [hcs]; exact hb
  refine ⟨_, ids, _, by rw [← hr ids], List.prefix_refl _, hf.act (hx' := rest.and (HX.rw 4 143 a l.length cap (kcells l))) hch (fun b q => q.imp id fun q => ⟨.inr q, hM b q.1 q.2⟩) hn hb2 ⟨rest.loc w w' hf.x.1 fun k hk => hch.block k (hf.sep k (.inl hk)).1 (fun q => ?_), hX⟩ (fun k hk => .inl hk) hhp hfit hc oneNil, holds_pre t hp h⟩
  rcases q with q | q
  · exact (hf.sep k (.inl hk)).2 (q ▸ idAt_mem hlt)
  · exact hdis k q.1 q.2 hk
end
end Go.Proofs.Ytbedoemdjlollaa

namespace Go.Proofs.Ytbedoemdjlollaa
open Go.ChangeShapes Go.WideShapes Go.ChangeAt Go.RowKit Go.Syn Go.Eng
set_option linter.unusedVariables false
set_option linter.unusedSimpArgs false
set_option maxRecDepth 100000
def askRet (k re im : Int) (d : Bool) (v : Value) : Value := .tuple #[v, .agg #[.int .i64 k, .int .i64 re, .int .i64 im], .bool d]
def cmdC (sess seq ack o1 o2 o3 o4 o5 : Int) : Value := .agg #[.int .i64 sess, .int .i64 seq, .int .i64 ack, .int .i64 o1, .int .i64 o2, .int .i64 o3, .int .i64 o4, .int .i64 o5]
structure TOk (t : List SsD) : Prop where
  len : t.length ≤ 1000
  kept : ∀ s ∈ t, s.kept.length ≤ 1000
  nos : Rise (nosT t)
  seqs : ∀ s ∈ t, Rise (seqsK s.kept)
theorem se_key {l : List SE} {n o : Nat} {v : Value} (i : Nat) (e : SE) (h : l[i]? = some e) (hv : e.cells[o]? = some v) {a : Option Addr} {w : World} (H : Cells w a (secells l)) : CellsAt w (.pointer (some (((a.getD ⟨0, 0, none⟩).add (i * 3)).add o))) [v] (fun _ => False) :=
  (flat_part se_len H h (o := o) [v] (fun j u hj => by cases j with | zero => rw [List.getElem?_cons_zero] at hj; cases hj; exact hv | succ j => simp at hj) (by simp)).2 _ (fun q => q)
theorem tb_fin {P : Program} {W : World} {m : Mem} {ρ : Env} {ids : List Nat} {w2 : World} {V : Value → Value} {a : Option Addr} {c : Nat} {es : List SE} {t : List SsD} {v : SV} {R : Ending → World → Prop} (hf : Facts ⟨P, W, fun _ => False, R⟩ m ρ ids (tabR a c es) w2) (hm : es.map SE.s = t) (hdj : Dj a c es) (hnew : ∀ k, (tabR a c es).F k → W.heap.size ≤ k) (hv : v.den ρ ids = V (.slice a es.length c)) : TbNew W V t (.returned (v.den ρ ids)) w2 :=
  ⟨a, c, es, hm, by rw [hv, ← hm, List.length_map], hdj, hf.x, hnew, hf.chg.below⟩
theorem tb_fin0 {P : Program} {W : World} {m : Mem} {ρ : Env} {ids : List Nat} {w2 : World} {V : Value → Value} {a : Option Addr} {c : Nat} {es : List SE} {t : List SsD} {v : SV} {R : Ending → World → Prop} (hf : Facts ⟨P, W, fun _ => False, R⟩ m ρ ids (HX.nil.and (tabR a c es)) w2) (hm : es.map SE.s = t) (hdj : Dj a c es) (hnew : ∀ k, (tabR a c es).F k → W.heap.size ≤ k) (hv : v.den ρ ids = V (.slice a es.length c)) : TbNew W V t (.returned (v.den ρ ids)) w2 :=
  ⟨a, c, es, hm, by rw [hv, ← hm, List.length_map], hdj, hf.x.2, hnew, hf.chg.below⟩
def AskI (W : World) (t1 : List SsD) (bad : Prop) (vs : Vals) (hx : HX) : Prop := ¬ bad ∧ ∃ a2 c2 es2, es2.map SE.s = t1 ∧ Dj a2 c2 es2 ∧ Sm a2 es2 ∧ (∀ k, (tabR a2 c2 es2).F k → W.heap.size ≤ k) ∧ vs = ⟨[], [], [], [es2.length, c2], [a2]⟩ ∧ hx = tabR a2 c2 es2
set_option maxHeartbeats 4000000 in
theorem task_any (a : Option Addr) (cap : Nat) (es : List SE) (sess seq ack o1 o2 o3 o4 o5 : Int) (w : World) (H : TbAt w a es) (hok : TOk (es.map SE.s)) :
    Calls Try.prog 55 #[.slice a es.length cap, cmdC sess seq ack o1 o2 o3 o4 o5] w (TbNew w (askRet (askV (es.map SE.s) sess seq ack).k (askV (es.map SE.s) sess seq ack).re (askV (es.map SE.s) sess seq ack).im (askV (es.map SE.s) sess seq ack).d) (askV (es.map SE.s) sess seq ack).t) := by
  refine calls_at (tab_ok _) Try.func55 rfl tTAskJ (ρ := ⟨[sess, seq, ack, o1, o2, o3, o4, o5], [], [], [es.length, cap], [a]⟩) (ids := []) (hx := HX.nil) rfl (Facts.initP rfl oneNil) ?_
  obtain ⟨t, et⟩ : ∃ t, t = es.map SE.s := ⟨_, rfl⟩
  rw [← et] at hok ⊢
  obtain ⟨R, eR⟩ : ∃ R, R = askV t sess seq ack := ⟨_, rfl⟩
  rw [← eR]
  have htl : t.length = es.length := by rw [et, List.length_map]
  have hkk : ∀ e ∈ es, e.s.kept.length ≤ 1000000 := fun e he => Nat.le_trans (hok.kept e.s (by rw [et]; exact List.mem_map_of_mem he)) (by decide)
  refine node_tb (V := id) (tb := t) (fun _ => #[.slice a es.length cap]) (fun a' c' => ⟨[], [], [], [t.length, c'], [a']⟩) (by intros; kernel_rfl) (fun ids w2 hp hf => by
    rw [et]; exact tclone_any a cap es w2 (H.keep (fun k hk => hf.chg.block k hk (fun q => q))) (by have := hok.len; omega) hkk) (by intros; kernel_rfl) (by kernel_rfl) (by kernel_rfl) (by intros; kernel_rfl) (fun _ _ => oneNil) ?_
  intro a1 c1 es1 hm1 hdj1 hsm1 hnew1
  have hl1 : es1.length = t.length := by rw [← hm1, List.length_map]
  have hn1 : (es1.map fun e => e.s.no) = nosT t := by rw [← hm1]; unfold nosT; rw [List.map_map]; rfl
  have hlen := hok.len
  obtain ⟨i, ei⟩ : ∃ i, i = posI (nosT t) sess := ⟨_, rfl⟩
  have hle : i ≤ t.length := by
    have := pos_le (nosT t) sess
    rw [ei]; unfold nosT at this ⊢
    rwa [List.length_map] at this
  refine holds_env (ρ' := ⟨[sess, seq, ack, o1, o2, o3, o4, o5], [], [], [es.length, cap, es1.length, c1], [a, a1]⟩) (by rw [hl1]; kernel_rfl) ?_
  refine node_P ⟨[(i : Int)], [hitI (nosT t) sess], [], [], []⟩ #[.slice a1 es1.length c1, .int .i64 sess, .func (.func 71) #[] #[]] (.tuple #[.int .i64 (i : Int), .bool (hitI (nosT t) sess)]) (by intros; kernel_rfl) (by intros; kernel_rfl) (by intros; kernel_rfl) (by intros; kernel_rfl) (by intros; kernel_rfl) oneNil (fun ids w2 hp hf => by
    have := bst_any a1 c1 es1 sess w2 (rw_cells hf.x.2.2) (by rw [hn1]; exact hok.nos) (by omega)
    rw [hn1, ← ei] at this; exact this) ?_
  refine ⟨AskI w (tabS t sess) (hitI (nosT t) sess = false ∧ 16 ≤ t.length), ?_, ?_⟩
  · rcases Bool.eq_false_or_eq_true (hitI (nosT t) sess) with hh | hh
    · refine br_F (!(hitI (nosT t) sess)) (by kernel_rfl) (by rw [hh]; rfl) ?_
      refine again_V ⟨[], [], [], [es1.length, c1], [a1]⟩ rfl (by intros; kernel_rfl) (tabR a1 c1 es1) (fun w2 ids hf => ⟨hf.x.2, fun j hj => hf.sep j (.inr hj)⟩) ⟨fun q => Bool.noConfusion (hh.symm.trans q.1), a1, c1, es1, ?_, hdj1, hsm1, fun k hk => (hnew1 k hk).1, rfl, rfl⟩
      rw [hm1]; unfold tabS; rw [if_pos hh]
    · refine br_T (!(hitI (nosT t) sess)) (by kernel_rfl) (by rw [hh]; rfl) ?_
      by_cases hfull : 16 ≤ t.length
      · refine br_T (decide ((es1.length : Int) ≥ 16)) (by kernel_rfl) (decide_eq_true (by omega)) ?_
        have hR : R = ⟨t, 5, 0, 0, true⟩ := by rw [eR]; unfold askV; rw [if_pos ⟨hh, hfull⟩]
        rw [hR]
        intro ids w2 hp hf
        exact tb_fin0 hf hm1 hdj1 (fun k hk => (hnew1 k hk).1) (by kernel_rfl)
      · refine br_F (decide ((es1.length : Int) ≥ 16)) (by kernel_rfl) (decide_eq_false (by omega)) ?_
        refine holds_eq (show _ = (HX.nil.and (ksR es1)).and (HX.rw 3 141 a1 es1.length c1 (secells es1)) from (HX.and_assoc _ _ _).symm) ?_
        refine node_rwm (V := id) (n' := es1.length + 1) (zs := (secells es1).take (i * 3) ++ [.int .i64 sess, .int .i64 0, .slice none 0 0] ++ (secells es1).drop (i * 3)) (fun ids => #[.slice a1 es1.length c1, .int .i64 (i : Int), .slice (some ⟨idAt ids 2, 0, none⟩) 1 1]) (fun a' c' => ⟨[], [], [], [es1.length + 1, c'], [a']⟩) (by intros; kernel_rfl) (fun ids w2 hp hf => ?_) (fun q h1 h2 hF => ?_) (fun q h1 h2 => .inl (hnew1 q (.inr ⟨h1, h2⟩)).1) (by intros; kernel_rfl) (by kernel_rfl) (by kernel_rfl) (by intros; kernel_rfl) (fun _ _ => oneNil) ?_
        · have hlt2 : 2 < ids.length := by rw [hf.len]; decide
          exact inst_any a1 c1 es1.length i (secells es1) sess 0 (idAt ids 2) w2 hf.x.2 (hf.blkAt 2 rfl) (by omega) (by omega) (se_one es1) (fun k h1 h2 q => (hf.sep k (.inr ⟨h1, h2⟩)).2 (q ▸ idAt_mem hlt2))
        · rcases hF with hF | hF
          · exact hF
          · exact hdj1.row q ⟨h1, h2⟩ hF
        intro a2 c2 hsm2 hdis2 hwh2
        have hi1 : i ≤ es1.length := by omega
        have hz : (secells es1).take (i * 3) ++ [Value.int .i64 sess, .int .i64 0, .slice none 0 0] ++ (secells es1).drop (i * 3) = secells (insAt es1 i (seNew sess)) := (insAt_flat se_len es1 i (seNew sess)).symm
        have hx2 : HX.nil.and (tabR a2 c2 (insAt es1 i (seNew sess))) = (HX.nil.and (ksR es1)).and (HX.rw 3 141 a2 (es1.length + 1) c2 (secells (insAt es1 i (seNew sess)))) := by
          unfold tabR tRow
          rw [ksR_ins, insAt_len _ hi1, HX.and_assoc]
        refine holds_eq (show _ = HX.nil.and (tabR a2 c2 (insAt es1 i (seNew sess))) from by rw [hz, hx2]) ?_
        refine again_V ⟨[], [], [], [(insAt es1 i (seNew sess)).length, c2], [a2]⟩ rfl (fun ids => Eq.trans (b := ⟨[], [], [], [es1.length + 1, c2], [a2]⟩) (by kernel_rfl) (by rw [insAt_len _ hi1])) (tabR a2 c2 (insAt es1 i (seNew sess))) (fun w2 ids hf => ⟨hf.x.2, fun j hj => hf.sep j (.inr hj)⟩) ⟨fun q => hfull q.2, a2, c2, insAt es1 i (seNew sess), ?_, hdj1.ins hi1 (fun k h1 h2 q => hdis2 k h1 h2 (.inr q)), ⟨fun _ => hsm2 (by simp), fun x hx hk => (insAt_mem.1 hx).elim (fun q => hsm1.each x q hk) (fun q => absurd (by rw [q]; rfl) hk)⟩, ?_, rfl, rfl⟩
        · rw [insAt_map, hm1]; unfold tabS; rw [if_neg (by rw [hh]; decide), ei]; rfl
        · rintro k (hk | hk)
          · rw [ksR_ins] at hk
            exact (hnew1 k (.inl hk)).1
          · rcases hwh2 k hk.1 hk.2 with q | q
            · exact (hnew1 k (.inr q)).1
            · exact q.1
  rintro vs hx' hcnt ⟨hgood, a2, c2, es2, hm2, hdj2, hsm2, hnew2, rfl, rfl⟩
  refine holds_env (ρ' := ⟨[sess, seq, ack, o1, o2, o3, o4, o5, (i : Int)], [hitI (nosT t) sess], [], [es.length, cap, es1.length, c1, es2.length, c2], [a, a1, a2]⟩) (by kernel_rfl) ?_
  obtain ⟨s, hs, hsno, hs1, hs2⟩ := tabS_at t sess
  rw [← ei] at hs hs1
  have hR : R = askS ((tabS t sess).set i (updS ack s)) (updS ack s) seq := by
    rw [eR]; unfold askV; rw [if_neg hgood, ← ei, hs]
  obtain ⟨e, he, hes⟩ : ∃ e, es2[i]? = some e ∧ e.s = s := by
    have h1 : (es2.map SE.s)[i]? = some s := by rw [hm2]; exact hs
    rw [List.getElem?_map] at h1
    cases h4 : es2[i]? with
    | none => rw [h4] at h1; cases h1
    | some x => rw [h4] at h1; simp only [Option.map_some, Option.some.injEq] at h1; exact ⟨x, rfl, h1⟩
  have hi2 : i < es2.length := (List.getElem?_eq_some_iff.1 he).1
  have hl2 : es2.length ≤ 1001 := by
    have h1 : es2.length = (tabS t sess).length := by rw [← hm2, List.length_map]
    rw [h1]; unfold tabS
    split
    · omega
    · rw [insAt_len _ (by rw [← ei]; exact hle)]; omega
  have hsok : s.kept.length ≤ 1000 ∧ Rise (seqsK s.kept) := by
    rcases Bool.eq_false_or_eq_true (hitI (nosT t) sess) with hh | hh
    · have := List.mem_of_getElem? (hs1 hh)
      exact ⟨hok.kept s this, hok.seqs s this⟩
    · rw [hs2 hh]; exact ⟨Nat.zero_le _, fun i j x y _ h => by simp [seqsK] at h⟩
  obtain ⟨A, eA⟩ : ∃ A, A = max e.s.ack ack := ⟨_, rfl⟩
  have hwe : es2 ≠ [] := fun q => by rw [q] at hi2; simp at hi2
  obtain ⟨e1, ee1⟩ : ∃ e1 : SE, e1 = ⟨⟨e.s.no, A, e.s.kept⟩, e.a, e.c⟩ := ⟨_, rfl⟩
  obtain ⟨l', el'⟩ : ∃ l', l' = e.s.kept.filter (live A) := ⟨_, rfl⟩
  obtain ⟨e3, ee3⟩ : ∃ e3 : SE, e3 = ⟨⟨e.s.no, A, l'⟩, e.a, e.c⟩ := ⟨_, rfl⟩
  have hu : updS ack s = ⟨e.s.no, A, l'⟩ := by rw [el', eA, ← hes]; rfl
  rw [hu] at hR
  have hll : l'.length ≤ 1000 := by rw [el']; exact Nat.le_trans (List.length_filter_le _ _) (by rw [hes]; exact hsok.1)
  have hlr : Rise (seqsK l') := by rw [el', hes]; exact rise_filter hsok.2 _
  have he1 : (es2.set i e1)[i]? = some e1 := List.getElem?_set_self hi2
  have he3 : (es2.set i e3)[i]? = some e3 := List.getElem?_set_self hi2
  have hm3 : (es2.set i e3).map SE.s = (tabS t sess).set i ⟨e.s.no, A, l'⟩ := by rw [List.map_set, hm2, ee3]
  have hdj3 : Dj a2 c2 (es2.set i e3) := hdj2.set he (fun k hk => hdj2.one he k (by rw [ee3] at hk; exact hk))
  have hF3 : ∀ k, (tabR a2 c2 (es2.set i e3)).F k → w.heap.size ≤ k := by
    rintro k (hk | hk)
    · rw [ksR_set he] at hk
      rcases hk with hk | hk
      · exact hnew2 k (.inl (by rw [ksR_split he]; exact .inl hk))
      · exact hnew2 k (.inl (by rw [ksR_split he]; exact .inr (by rw [ee3] at hk; exact hk)))
    · exact hnew2 k (.inr hk)
  have hi0 : (0 : Int) ≤ (i : Int) ∧ (i : Int) < (es2.length : Int) := by omega
  refine need_k (a2.isSome = true ∧ (0 : Int) ≤ i ∧ (i : Int) < es2.length) (by kernel_rfl) ⟨hsm2.tab hwe, hi0⟩ ?_
  refine node_ldk ⟨[e.s.ack], [], [], [], []⟩ (fun _ => .pointer (some (((a2.getD ⟨0, 0, none⟩).add (i * 3)).add 1))) [.int .i64 e.s.ack] (by intros; kernel_rfl) (by intros; kernel_rfl) (fun ids w2 hp hf => se_key i e he (n := 0) rfl (rw_cells hf.x.2)) (by kernel_rfl) oneNil ?_
  refine holds_eq (show _ = (ksR es2).and (HX.rw 3 141 a2 es2.length c2 (secells es2)) from rfl) ?_
  refine node_stores (sz := 3) a2 es2.length c2 (secells es2) [.int .i64 A] i 1 (.int .i64 A) (by kernel_rfl) (by intros; kernel_rfl) (fun ids => Eq.trans (b := .int .i64 (max e.s.ack ack)) (by kernel_rfl) (by rw [eA])) rfl (by simp [Value.oneCell']) (by simp; omega) (by simp) (fun q h1 h2 hF => hdj2.row q ⟨h1, h2⟩ hF) (fun q h1 h2 => .inl (hnew2 q (.inr ⟨h1, h2⟩))) (by kernel_rfl) (by kernel_rfl) (by kernel_rfl) ?_
  have hst1 : spl (secells es2) (i * 3 + 1) [.int .i64 A] = secells (es2.set i e1) := flat_spl se_len he (e' := e1) (o := 1) (us := [.int .i64 A]) (by simp) (by rw [ee1]; rfl)
  rw [hst1]
  refine node_ldk ⟨[], [], [], [e.s.kept.length, e.c], [e.a]⟩ (fun _ => .pointer (some (((a2.getD ⟨0, 0, none⟩).add (i * 3)).add 2))) [.slice e.a e.s.kept.length e.c] (by intros; kernel_rfl) (by intros; kernel_rfl) (fun ids w2 hp hf => se_key i e1 he1 (n := 0) (by rw [ee1]; rfl) (rw_cells hf.x.2)) (by kernel_rfl) oneNil ?_
  refine holds_eq (show _ = ((ksR (es2.eraseIdx i)).and (HX.rw 3 141 a2 es2.length c2 (secells (es2.set i e1)))).and (HX.rw 4 143 e.a e.s.kept.length e.c (kcells e.s.kept)) from by rw [ksR_split he, HX.and_right_comm]; rfl) ?_
  have hdE := hdj2.one he
  refine node_del (bn := 2) (pc := pSe a2 i) l' (fun ids => #[.slice e.a e.s.kept.length e.c, fAsk (idAt ids 2)]) (by intros; kernel_rfl) rfl (by intros; kernel_rfl) (fun ids w2 hp hf => ?_) (fun q h1 h2 hF => ?_) (fun q h1 h2 => .inl (hnew2 q (.inl ⟨e, List.mem_of_getElem? he, h1, h2⟩))) (by intros; kernel_rfl) (by kernel_rfl) (by kernel_rfl) (by kernel_rfl) ?_
  · have hlt2 : 2 < ids.length := by rw [hf.len]; decide
    have hc := rw_cl hf.x.1.2
    have := delk_any e.a e.c e.s.kept (idAt ids 2) a2 (es2.set i e1) i e1 w2 hf.x.2 (by rw [hes]; have := hsok.1; omega) (hf.blkAt 2 rfl) (rw_cells hf.x.1.2) he1 (fun q => ?_) (fun k h1 h2 => ⟨fun q => (hf.sep k (.inr ⟨h1, h2⟩)).2 (q ▸ idAt_mem hlt2), fun q => (hdE k ⟨h1, h2⟩).2 (hc.2 k q)⟩)
    · rw [show e1.s.ack = A by rw [ee1], ← el'] at this
      exact this
    · have hne : secells (es2.set i e1) ≠ [] := sec_ne (fun z => by rw [z] at he1; simp at he1)
      exact (hf.sep (blk a2) (.inl (.inr (hc.2 _ ⟨hne, rfl⟩)))).2 (q ▸ idAt_mem hlt2)
  · rcases hF with hF | hF
    · exact (hdE q ⟨h1, h2⟩).1 hF
    · exact (hdE q ⟨h1, h2⟩).2 hF
  refine holds_eq (show _ = ((ksR (es2.eraseIdx i)).and (HX.rw 4 143 e.a l'.length e.c (kcells l'))).and (HX.rw 3 141 a2 es2.length c2 (secells (es2.set i e1))) from HX.and_right_comm _ _ _) ?_
  refine node_stores (sz := 3) a2 es2.length c2 (secells (es2.set i e1)) [.slice e.a l'.length e.c] i 2 (.slice e.a l'.length e.c) (by kernel_rfl) (by intros; kernel_rfl) (by intros; kernel_rfl) rfl (by simp [Value.oneCell']) (by simp; omega) (by simp) (fun q h1 h2 hF => ?_) (fun q h1 h2 => .inl (hnew2 q (.inr ⟨h1, h2⟩))) (by kernel_rfl) (by kernel_rfl) (by kernel_rfl) ?_
  · rcases hF with hF | hF
    · exact hdj2.row q ⟨h1, h2⟩ (by rw [ksR_split he]; exact .inl hF)
    · exact hdj2.row q ⟨h1, h2⟩ (by rw [ksR_split he]; exact .inr hF)
  have hst3 : spl (secells (es2.set i e1)) (i * 3 + 2) [.slice e.a l'.length e.c] = secells (es2.set i e3) := by
    have := flat_spl se_len he1 (e' := e3) (o := 2) (us := [.slice e.a l'.length e.c]) (by simp) (by rw [ee1, ee3]; rfl)
    rw [List.set_set] at this; exact this
  rw [hst3]
  refine holds_eq (show _ = tabR a2 c2 (es2.set i e3) from by unfold tabR tRow; rw [ksR_set he, List.length_set, ee3]; rfl) ?_
  have hl3 : (es2.set i e3).length = es2.length := List.length_set ..
  refine node_ldk ⟨[A], [], [], [], []⟩ (fun _ => .pointer (some (((a2.getD ⟨0, 0, none⟩).add (i * 3)).add 1))) [.int .i64 A] (by intros; kernel_rfl) (by intros; kernel_rfl) (fun ids w2 hp hf => se_key i e3 he3 (n := 0) (by rw [ee3]; rfl) (rw_cells hf.x.2)) (by kernel_rfl) oneNil ?_
  rw [hR]
  unfold askS
  by_cases hstale : seq ≤ A
  · refine br_T (decide (seq ≤ A)) (by kernel_rfl) (decide_eq_true hstale) ?_
    rw [if_pos hstale]
    intro ids w2 hp hf
    exact tb_fin hf hm3 hdj3 hF3 (by rw [hl3]; kernel_rfl)
  refine br_F (decide (seq ≤ A)) (by kernel_rfl) (decide_eq_false hstale) ?_
  rw [if_neg hstale]
  have ldk2 : ∀ {m m' : Mem} {n : Nat} {o : Nat} {t : Tree} {L : Stack} {pre : List Nat} {R : Ending → World → Prop} {ρ : Env} {l : LV} {cs : List LV}, (∀ ids, l.den ρ ids = .pointer (some (((a2.getD ⟨0, 0, none⟩).add (i * 3)).add 2))) → (∀ ids, cellsDen (ρ.add ⟨[], [], [], [l'.length, e.c], [e.a]⟩) ids cs = [.slice e.a l'.length e.c]) → (ρ.add ⟨[], [], [], [l'.length, e.c], [e.a]⟩).cnt = m'.c → t.holds ⟨Try.prog, w, fun _ => False, R⟩ (ρ.add ⟨[], [], [], [l'.length, e.c], [e.a]⟩) pre (tabR a2 c2 (es2.set i e3)) L → (Tree.ld true l cs m m' t).holds ⟨Try.prog, w, fun _ => False, R⟩ ρ pre (tabR a2 c2 (es2.set i e3)) L := fun h1 h2 h3 h4 =>
    node_ldk ⟨[], [], [], [l'.length, e.c], [e.a]⟩ (fun _ => .pointer (some (((a2.getD ⟨0, 0, none⟩).add (i * 3)).add 2))) [.slice e.a l'.length e.c] h1 h2 (fun ids w2 hp hf => se_key i e3 he3 (n := 0) (by rw [ee3]; rfl) (rw_cells hf.x.2)) h3 oneNil h4
  refine ldk2 (n := 0) (o := 0) (by intros; kernel_rfl) (by intros; kernel_rfl) (by kernel_rfl) ?_
  have hkc : ∀ {m : Mem} {ρ : Env} {ids : List Nat} {w2 : World} {R : Ending → World → Prop}, Facts ⟨Try.prog, w, fun _ => False, R⟩ m ρ ids (tabR a2 c2 (es2.set i e3)) w2 → Cells w2 e.a (kcells l') := fun hf => by
    have := rw_cells (hf.x.1 e3 (List.mem_of_getElem? he3))
    rw [ee3] at this; exact this
  have hq : (l'.map fun e => e.seq) = seqsK l' := rfl
  obtain ⟨j, ej⟩ : ∃ j, j = posI (seqsK l') seq := ⟨_, rfl⟩
  refine node_P ⟨[(j : Int)], [hitI (seqsK l') seq], [], [], []⟩ #[.slice e.a l'.length e.c, .int .i64 seq, .func (.func 76) #[] #[]] (.tuple #[.int .i64 (j : Int), .bool (hitI (seqsK l') seq)]) (by intros; kernel_rfl) (by intros; kernel_rfl) (by intros; kernel_rfl) (by intros; kernel_rfl) (by intros; kernel_rfl) oneNil (fun ids w2 hp hf => by
    have := bsk_any e.a e.c l' seq w2 (hkc hf) hlr (by omega)
    rw [hq, ← ej] at this; exact this) ?_
  rcases Bool.eq_false_or_eq_true (hitI (seqsK l') seq) with hh | hh
  · refine br_T (hitI (seqsK l') seq) (by kernel_rfl) hh ?_
    have h1 := hit_iff.1 hh
    have h3 : (l'.map KpD.seq)[j]? = some seq := by rw [ej]; exact h1
    rw [List.getElem?_map] at h3
    cases h4 : l'[j]? with
    | none => rw [h4] at h3; cases h3
    | some k =>
    rw [if_pos hh]
    dsimp only
    rw [← ej, h4]
    dsimp only
    have hjl : j < l'.length := (List.getElem?_eq_some_iff.1 h4).1
    refine ldk2 (n := 0) (o := 0) (by intros; kernel_rfl) (by intros; kernel_rfl) (by kernel_rfl) ?_
    have hke : e.s.kept ≠ [] := fun q => by rw [el', q] at hjl; simp at hjl
    refine need_k (e.a.isSome = true ∧ (0 : Int) ≤ j ∧ (j : Int) < l'.length) (by kernel_rfl) ⟨hsm2.each e (List.mem_of_getElem? he) hke, by omega, by omega⟩ ?_
    refine node_ldk ⟨[k.kind, k.re, k.im], [], [], [], []⟩ (fun _ => .pointer (some (((e.a.getD ⟨0, 0, none⟩).add (j * 4)).add 1))) [.int .i64 k.kind, .int .i64 k.re, .int .i64 k.im] (by intros; kernel_rfl) (by intros; kernel_rfl) (fun ids w2 hp hf => (flat_part kp_len (hkc hf) h4 (o := 1) [.int .i64 k.kind, .int .i64 k.re, .int .i64 k.im] (fun j u hj => by
      unfold KpD.cells
      rw [Nat.add_comm, List.getElem?_cons_succ]; exact hj) (by simp)).2 _ (fun q => q)) (by kernel_rfl) oneNil ?_
    intro ids w2 hp hf
    exact tb_fin hf hm3 hdj3 hF3 (by rw [hl3]; kernel_rfl)
  · refine br_F (hitI (seqsK l') seq) (by kernel_rfl) hh ?_
    rw [if_neg (by rw [hh]; decide)]
    refine ldk2 (n := 0) (o := 0) (by intros; kernel_rfl) (by intros; kernel_rfl) (by kernel_rfl) ?_
    by_cases h8 : 8 ≤ l'.length
    · refine br_T (decide ((l'.length : Int) ≥ 8)) (by kernel_rfl) (decide_eq_true (by omega)) ?_
      rw [if_pos h8]
      intro ids w2 hp hf
      exact tb_fin hf hm3 hdj3 hF3 (by rw [hl3]; kernel_rfl)
    · refine br_F (decide ((l'.length : Int) ≥ 8)) (by kernel_rfl) (decide_eq_false (by omega)) ?_
      rw [if_neg h8]
      intro ids w2 hp hf
      exact tb_fin hf hm3 hdj3 hF3 (by rw [hl3]; kernel_rfl)
end Go.Proofs.Ytbedoemdjlollaa
