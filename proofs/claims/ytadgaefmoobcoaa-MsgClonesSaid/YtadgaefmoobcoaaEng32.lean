/- More on rows: cap, copy into a row, append of zeros, overlaps, calls that change a row. No program in sight. -/
import Derived.Test.YtadgaefmoobcoaaEng31
import Derived.Lib.AppendZerosOnto
import Derived.Lib.Overlaps
namespace Go.Eng
open Go.RowKit Go.Syn
set_option linter.unusedVariables false
section
variable {C : Cfg} {ρ : Env} {pre : List Nat} {rest hx : HX} {L : Stack} {m m' : Mem} {ty : Nat} {ps : List (Nat × SV)} {t : Tree}
theorem node_cap {st e : TypeId} {xo : Operand} {ac : Go.Call} {r : SV} (hac : ac = { callee := .builtin .cap, args := #[xo], argTypes := #[st] }) (ht : C.P.underlying st = some (.slice e)) (a : Option Addr) (n cap : Nat) (hxo : ∀ ids, envOf ρ ids ps xo = .slice a n cap)
    (hr : ∀ ids, r.den (ρ.add ⟨[(cap : Int)], [], [], [], []⟩) ids = .int .i64 (cap : Int)) (hhp : m'.hp = m.hp) (hfit : hpFits m.c m.hp.length m.hp = true) (hc : (ρ.add ⟨[(cap : Int)], [], [], [], []⟩).cnt = m'.c)
    (h : t.holds C (ρ.add ⟨[(cap : Int)], [], [], [], []⟩) pre hx L) : (Tree.gen (.call ac) ty ps m (some r) m' t).holds C ρ pre hx L := by
  subst hac
  refine node_gpure (V := .int .i64 (cap : Int)) _ (fun ids w hp hf => ?_) hr hhp hfit hc oneNil h
  simp [execOp, resolve, invoke, builtin, hxo, Builtin.cap_, run_underlying ht, goInt]
theorem sliA_in {g l cap sz : Nat} (h : cap ≠ l) : sliA (some (⟨g, 0, none⟩ : Addr)) l cap sz = some ⟨g, l * sz, none⟩ := by
  unfold sliA
  rw [if_neg h]
  show some ((⟨g, 0, none⟩ : Addr).add (l * sz)) = _
  rw [Go.WideShapes.add_plain, Nat.zero_add]
theorem spl_nil (cur : List Value) (o : Nat) : spl cur o [] = cur := by
  unfold spl
  rw [List.length_nil, Nat.add_zero, List.append_nil, List.take_append_drop]
theorem spl_take {cur us : List Value} {o k : Nat} (h : o + us.length ≤ k) (h2 : k ≤ cur.length) : (spl cur o us).take k = spl (cur.take k) o us := by
  unfold spl
  rw [List.take_take, Nat.min_eq_left (by omega), List.take_append, List.take_of_length_le (by rw [List.length_append, List.length_take]; omega), List.drop_take]
  congr 2
  rw [List.length_append, List.length_take]; omega
/-- copy into a row of one's own. -/
theorem node_copy {dt st2 e : TypeId} {do_ so : Operand} {ac : Go.Call} {r : SV} {z : Value} {sz bytes : Nat} (hac : ac = { callee := .builtin .copy, args := #[do_, so], argTypes := #[dt, st2] }) (ht : C.P.underlying dt = some (.slice e)) (hinfo : (C.P.info? e).map (fun i => (i.zero, i.size, i.bytes)) = some (some z, sz, bytes)) (hsz : 0 < sz)
    (a : Option Addr) (n cap l : Nat) (xs : List Value) (d : Option Addr) (dl dc : Nat) (sa : List Nat → Option Addr) (n2 c2 k : Nat) (ys : List Value)
    (hd : ∀ ids, envOf ρ ids ps do_ = .slice d dl dc) (hs : ∀ ids, pre <+: ids → envOf ρ ids ps so = .slice (sa ids) n2 c2) (hda : cap ≠ 0 → a.isSome = true → d = sliA a l cap sz) (hk : Nat.min n2 dl = k) (hlen : ys.length = k * sz) (hfit2 : l + k ≤ n) (h1 : ∀ u ∈ ys, u.oneCell' = true)
    (hys : ∀ ids w, pre <+: ids → Facts C m ρ ids (rest.and (HX.rw sz e a n cap xs)) w → Cells w (sa ids) ys)
    (hdis : ∀ q, cap ≠ 0 → abk a = some q → ¬ rest.F q) (hM : ∀ q, cap ≠ 0 → abk a = some q → C.W.heap.size ≤ q ∨ C.M q)
    (hr : ∀ ids, r.den (ρ.add ⟨[(k : Int)], [], [], [], []⟩) ids = .int .i64 (k : Int)) (hhp : m'.hp = m.hp) (hfit : hpFits m.c m.hp.length m.hp = true) (hc : (ρ.add ⟨[(k : Int)], [], [], [], []⟩).cnt = m'.c)
    (h : t.holds C (ρ.add ⟨[(k : Int)], [], [], [], []⟩) pre (rest.and (HX.rw sz e a n cap (spl xs (l * sz) ys))) L) :
    (Tree.gen (.call ac) ty ps m (some r) m' t).holds C ρ pre (rest.and (HX.rw sz e a n cap xs)) L := by
  intro ids w hp hf
  subst hac
  unfold GenRun
  obtain ⟨i0, hi, hz0, hz1, hz2⟩ := info_parts hinfo
  have hrow : (HX.rw sz e a n cap xs).X w := hf.x.2
  have hcs := hys ids w hp hf
  rcases Nat.eq_zero_or_pos k with h0 | h0
  · subst h0
    have hye : ys = [] := List.eq_nil_of_length_eq_zero (by rw [hlen]; simp)
    subst hye
    have hrun : (Builtin.copy_ #[dt, st2] ty #[.slice d dl dc, .slice (sa ids) n2 c2]).run C.P w = .ok (.int .i64 0) w := by
      cases d <;> cases sa ids <;> simp [Builtin.copy_, run_underlying ht, sizeOf, typeInfo, hi, Builtin.lenOf, Builtin.firstCells, storeCells, loadCells, loadCellsFrom, hk, goInt]
    simp only [execOp, resolve, invoke, builtin, hd, hs ids hp, Sem.run_bind, Sem.run_pure, Result.andThen_ok, List.map_toArray, List.map_cons, List.map_nil, hrun]
    refine ⟨_, ids, rest.and (HX.rw sz e a n cap xs), by simp only [Option.map_some, hr]; rfl, List.prefix_refl _, hf.turn (grown_none w) (fun b e => by cases e) hf.x (fun k hk => .inl hk) hhp hfit hc oneNil, holds_pre t hp (by rw [spl_nil] at h; exact h)⟩
  have hle := rw_le hrow
  have hc0 : cap ≠ 0 := by omega
  obtain ⟨g, cur, rfl, hlt, hg, hnc, hcm, hcl, htk⟩ := rw_open hrow hc0
  have hmul : n * sz ≤ cap * sz := Nat.mul_le_mul_right _ hnc
  have hmul2 : l * sz + k * sz ≤ n * sz := by rw [← Nat.add_mul]; exact Nat.mul_le_mul_right _ hfit2
  have hpos : 0 < ys.length := by rw [hlen]; exact Nat.mul_pos h0 hsz
  obtain ⟨ha, hab, hcc⟩ := hcs hpos
  obtain ⟨ad, had⟩ : ∃ ad, sa ids = some ad := by
    cases hs2 : sa ids with
    | none => rw [hs2] at ha; simp [PlainA] at ha
    | some ad => exact ⟨ad, rfl⟩
  rw [had] at ha hcc
  have hnews : ∀ j u, ys[j]? = some u → w.cell? (ad.add j) = some u := fun j u hj => by
    have e : ad = ⟨blk (some ad), ofs (some ad), none⟩ := Option.some.inj ha
    rw [e, Go.WideShapes.add_plain]; exact hcc j u hj
  have hdd := hda hc0 rfl
  rw [sliA_in (by omega)] at hdd
  obtain ⟨w', hst, hg', hgr⟩ := run_store_blk (P := C.P) (o := l * sz) (vs := ys) hg (by rw [hlen, hcl]; omega) h1
  have hf1 := run_firstCells_some (P := C.P) w sz k ad n2 c2 ys hlen hnews
  have hrun : (Builtin.copy_ #[dt, st2] ty #[.slice d dl dc, .slice (sa ids) n2 c2]).run C.P w = .ok (.int .i64 (k : Int)) w' := by
    rw [hdd, had]
    simp [Builtin.copy_, run_underlying ht, sizeOf, typeInfo, hi, hz1, Builtin.lenOf, hk, hf1, hst, goInt]
  simp only [execOp, resolve, invoke, builtin, hd, hs ids hp, Sem.run_bind, Sem.run_pure, Result.andThen_ok, List.map_toArray, List.map_cons, List.map_nil, hrun]
  have hX : (HX.rw sz e (some ⟨g, 0, none⟩) n cap (spl xs (l * sz) ys)).X w' := by
    have hsl : (spl cur (l * sz) ys).length = cap * sz := by rw [spl_len (by rw [hlen, hcl]; omega)]; exact hcl
    have := rw_shut hc0 hg' hnc hcm hsl
    rw [spl_take (by rw [hlen]; omega) (by rw [hcl]; omega), htk] at this
    exact this
  refine ⟨_, ids, rest.and (HX.rw sz e (some ⟨g, 0, none⟩) n cap (spl xs (l * sz) ys)), by simp only [Option.map_some, hr], List.prefix_refl _, hf.turn hgr (fun b hb => by cases hb; exact ⟨.inr ⟨hc0, rfl⟩, hM g hc0 rfl⟩) ⟨rest.loc w w' hf.x.1 fun q hq => hgr.block q (hf.sep q (.inl hq)).1 (fun e => by cases e; exact hdis g hc0 rfl hq), hX⟩ (fun k hk => .inl hk) hhp hfit hc oneNil, holds_pre t hp h⟩
/-- append of so many zeros onto what has no room: new memory. -/
theorem node_zeros {st kt e : TypeId} {so xo : Operand} {ac : Go.Call} {r : SV} {z : Value} {sz bytes : Nat} (hac : ac = { callee := .builtin .append, args := #[so, xo], argTypes := #[st, kt] }) (ht : C.P.underlying st = some (.slice e)) (hkt : C.P.underlying kt = some (.int .i64)) (hinfo : (C.P.info? e).map (fun i => (i.zero, i.size, i.bytes)) = some (some z, sz, bytes)) (hz : z.cells.size = sz) (hsz : 0 < sz) (hone : ∀ v ∈ z.cells.toList, v.oneCell' = true)
    (sa : Option Addr) (n cap k : Nat) (ys : List Value) (hk : 0 < k) (hroom : cap < n + k) (hlen : ys.length = n * sz) (h1 : ∀ u ∈ ys, u.oneCell' = true) (hys : ∀ ids w, pre <+: ids → Facts C m ρ ids hx w → Cells w sa ys)
    (h63 : n + k ≤ 1000000000) (hby : bytes ≤ 100000) (hso : ∀ ids, envOf ρ ids ps so = .slice sa n cap) (hxo : ∀ ids, envOf ρ ids ps xo = .int .i64 (k : Int))
    (hr : ∀ a' c' ids, r.den (ρ.add ⟨[], [], [], [n + k, c'], [a']⟩) ids = .slice a' (n + k) c') (hhp : m'.hp = m.hp) (hfit : hpFits m.c m.hp.length m.hp = true) (hc : ∀ a' c', (ρ.add ⟨[], [], [], [n + k, c'], [a']⟩).cnt = m'.c)
    (h : ∀ g c', c' ≠ 0 → n + k ≤ c' → C.W.heap.size ≤ g → ¬ hx.F g → t.holds C (ρ.add ⟨[], [], [], [n + k, c'], [some ⟨g, 0, none⟩]⟩) pre (hx.and (HX.rw sz e (some ⟨g, 0, none⟩) (n + k) c' (ys ++ (Builtin.zeroCells z.cells k).toList))) L) :
    (Tree.gen (.call ac) ty ps m (some r) m' t).holds C ρ pre hx L := by
  intro ids w hp hf
  subst hac
  unfold GenRun
  obtain ⟨i0, hi, hz0, hz1, hz2⟩ := info_parts hinfo
  have hcs : Cells w.drew sa ys := hys ids w hp hf
  have hold : (Builtin.firstCells i0.size n (.slice sa n cap)).run C.P w.drew = .ok ys.toArray w.drew := by
    rw [hz1]
    cases sa with
    | none =>
      have : ys = [] := List.eq_nil_of_length_eq_zero (Nat.eq_zero_of_not_pos fun q => by have := (hcs q).1; simp [PlainA] at this)
      subst this
      exact run_firstCells_none _ _ _ _ _
    | some ad =>
      refine run_firstCells_some _ sz n ad n cap ys hlen fun j u hj => ?_
      have hpos : 0 < ys.length := by
        rcases Nat.lt_or_ge j ys.length with q | q
        · omega
        · rw [List.getElem?_eq_none q] at hj; cases hj
      obtain ⟨ha, _, hcc⟩ := hcs hpos
      have e : ad = ⟨blk (some ad), ofs (some ad), none⟩ := Option.some.inj ha
      rw [e, Go.WideShapes.add_plain]; exact hcc j u hj
  have hnx : Builtin.nextslicecap (n + k) cap ≤ 2 * (n + k) := nextslicecap_le hroom
  have hb1 : k * i0.bytes ≤ 281474976710656 := by
    rw [hz2]
    exact Nat.le_trans (Nat.mul_le_mul (show k ≤ 1000000000 by omega) hby) (by decide)
  have hb2 : Builtin.nextslicecap (n + k) cap * i0.bytes ≤ 281474976710656 := by
    rw [hz2]
    exact Nat.le_trans (Nat.mul_le_mul (show _ ≤ 2000000000 by omega) hby) (by decide)
  have hrun := Go.Lib.run_append_grow_zeros (P := C.P) (ty := ty) w st kt e i0 z .i64 .i64 ht hkt hi hz0 sa n cap ys hold k hk (by omega) hroom (by omega) hb1 hb2
  simp only [execOp, resolve, invoke, builtin, hso, hxo, Sem.run_bind, Sem.run_pure, Result.andThen_ok, List.map_toArray, List.map_cons, List.map_nil, hrun]
  have hge := grownCap_ge w (n + k) cap e
  have hmx := grownCap_le_maxLen w (n + k) cap e (by simp only [maxLen]; omega)
  obtain ⟨c', ec⟩ : ∃ c', c' = grownCap w (n + k) cap e := ⟨_, rfl⟩
  rw [← ec] at hge hmx ⊢
  obtain ⟨zs, ezs⟩ : ∃ zs, zs = (Builtin.zeroCells z.cells k).toList := ⟨_, rfl⟩
  have hzl : zs.length = k * sz := by rw [ezs, zeroCells_len, hz]
  have hX : (HX.rw sz e (some ⟨w.heap.size, 0, none⟩) (n + k) c' (ys ++ zs)).X (w.drew.alloc (.cells (ys.toArray ++ Builtin.zeroCells z.cells k ++ Builtin.zeroCells z.cells (c' - (n + k))) e)) := by
    have hnew : (w.drew.alloc (.cells (ys.toArray ++ Builtin.zeroCells z.cells k ++ Builtin.zeroCells z.cells (c' - (n + k))) e)).heap[w.heap.size]? = some (.cells (ys ++ zs ++ (Builtin.zeroCells z.cells (c' - (n + k))).toList).toArray e (0, 0)) := by
      rw [ezs]
      show (w.heap.push _)[w.heap.size]? = _
      rw [Array.getElem?_push_size]
      congr 2
      apply Array.toList_inj.1
      simp
    have := rw_shut (sz := sz) (n := n + k) (cap := c') (by omega) hnew hge hmx (by
      rw [List.length_append, List.length_append, zeroCells_len, hlen, hzl, hz, ← Nat.add_mul, ← Nat.add_mul]; congr 1; omega)
    rw [List.take_append_of_le_length (by rw [List.length_append, hlen, hzl, Nat.add_mul]; omega), List.take_of_length_le (by rw [List.length_append, hlen, hzl, Nat.add_mul]; omega)] at this
    exact this
  have hg : w.grownBy (w.drew.alloc (.cells (ys.toArray ++ Builtin.zeroCells z.cells k ++ Builtin.zeroCells z.cells (c' - (n + k))) e)) none := by
    refine ⟨rfl, rfl, rfl, ?_, fun q hq _ => ?_⟩
    · show w.heap.size ≤ (w.heap.push _).size
      rw [Array.size_push]; omega
    · show (w.heap.push _)[q]? = _
      rw [Array.getElem?_push, if_neg (Nat.ne_of_lt hq)]
  rw [← ezs] at h
  refine ⟨⟨[], [], [], [n + k, c'], [some ⟨w.heap.size, 0, none⟩]⟩, ids, hx.and (HX.rw sz e (some ⟨w.heap.size, 0, none⟩) (n + k) c' (ys ++ zs)), by simp only [Option.map_some, hr], List.prefix_refl _, hf.turn (hx' := hx.and (HX.rw sz e (some ⟨w.heap.size, 0, none⟩) (n + k) c' (ys ++ zs))) hg (fun b e => by cases e) ⟨hx.loc _ _ hf.x fun q hq => hg.block q (hf.sep q hq).1 (fun e => by cases e), hX⟩ (fun q hq => ?_) hhp hfit (hc _ _) oneNil, holds_pre t hp (h _ c' (by omega) hge hf.chg.size (fun q => by have := (hf.sep _ q).1; omega))⟩
  rcases hq with hq | hq
  · exact .inl hq
  · refine .inr ⟨?_, rw_blt hX hq.1 hq.2⟩
    have := hq.2; cases this; exact Nat.le_refl _
/-- A body-less function that is told the blocks. -/
theorem node_extw {g : Nat} {as : List Operand} {ts : Array TypeId} {fn : Func} {e : Array Value → Sem Value} {r : SV} {V : Value} (AS : List Nat → Array Value) (vs : Vals) (hf : C.P.funcs[g]? = some fn) (hnm : (fn.name == "runtime.NumGoroutine") = false) (hb : fn.body.isNone = true) (hn : Extern.findNext fn = none) (he : Extern.find fn = some e)
    (has : ∀ ids, (as.map (envOf ρ ids ps)).toArray = AS ids) (hrun : ∀ ids w, pre <+: ids → Facts C m ρ ids hx w → (e (AS ids)).run C.P w = .ok V w) (hr : ∀ ids, r.den (ρ.add vs) ids = V) (hhp : m'.hp = m.hp) (hfit : hpFits m.c m.hp.length m.hp = true) (hc : (ρ.add vs).cnt = m'.c) (h1 : ∀ v, v ∈ vs.v → v.oneCell' = true)
    (h : t.holds C (ρ.add vs) pre hx L) : (Tree.gen (.call { callee := .value (.func g), args := as.toArray, argTypes := ts }) ty ps m (some r) m' t).holds C ρ pre hx L := by
  refine node_gpure (V := V) vs (fun ids w hp hf2 => ?_) hr hhp hfit hc h1 h
  have hr2 := hrun ids w hp hf2
  unfold execOp
  simp only [resolve, envOf, Deferred.ofValue, List.map_toArray, has, Sem.run_bind, Sem.run_pure, Result.andThen_ok, invoke, callFunc, run_program, hf, hnm, hb, hn, he, run_mark, Bool.false_eq_true, if_false, if_true, Array.append_empty]
  simp [hr2]
end
section
variable {C : Cfg} {ρ : Env} {pre : List Nat} {hx : HX} {L : Stack} {m m' : Mem} {ty : Nat} {ps : List (Nat × SV)} {t : Tree} {r : Option SV}
/-- The second argument's type is not looked at. -/
theorem node_types {st st2 e e2 : TypeId} {so xo : Operand} (b : Option Addr) (n c0 : Nat) (ht : C.P.underlying st = some (.slice e)) (ht2 : C.P.underlying st2 = some (.slice e2)) (hso : ∀ ids, envOf ρ ids ps so = .slice b n c0)
    (h : (Tree.gen (.call { callee := .builtin .append, args := #[so, xo], argTypes := #[st, st] }) ty ps m r m' t).holds C ρ pre hx L) : (Tree.gen (.call { callee := .builtin .append, args := #[so, xo], argTypes := #[st, st2] }) ty ps m r m' t).holds C ρ pre hx L := by
  intro ids w hp hf
  have h2 := h ids w hp hf
  unfold GenRun at h2 ⊢
  simp only [execOp, resolve, invoke, builtin, hso, Sem.run_bind, Sem.run_pure, Result.andThen_ok, List.map_toArray, List.map_cons, List.map_nil, run_append_types w st st2 ty b n c0 _ ht ht2] at h2 ⊢
  exact h2
end
theorem Chg.but {F : Nat → Prop} {b : Nat} {w w' : World} (h : Chg (fun k => k = b ∨ F k) w w') (e : w'.heap[b]? = w.heap[b]?) : Chg F w w' :=
  ⟨h.os, h.tape, h.output, h.size, fun k hk hF => by
    by_cases q : k = b
    · rw [q]; exact e
    · exact h.block k hk (fun z => z.elim q hF)⟩
theorem ins_in {P Q T us : List Value} (h : us.length = T.length) : spl (spl (P ++ Q ++ T) (P.length + us.length) Q) P.length us = P ++ us ++ Q := by
  unfold spl
  have e1 : (P ++ Q ++ T).drop (P.length + us.length + Q.length) = [] := List.drop_of_length_le (by simp only [List.length_append]; omega)
  rw [e1, List.append_nil]
  have e2 : ((P ++ Q ++ T).take (P.length + us.length)).length = P.length + us.length := by
    rw [List.length_take]; simp only [List.length_append]; omega
  rw [List.drop_append, e2, List.drop_of_length_le (by rw [e2]; omega), Nat.sub_self, List.drop_zero, List.nil_append, List.take_append_of_le_length (by rw [e2]; omega), List.take_take, Nat.min_eq_left (by omega), List.append_assoc P Q T, List.take_left']
  rfl
theorem ins_new {P Q Z us : List Value} (h : Z.length = us.length + Q.length) : spl (spl (P ++ Z) P.length us) (P.length + us.length) Q = P ++ us ++ Q := by
  unfold spl
  have e1 : (P ++ Z).take P.length = P := List.take_left' rfl
  have e2 : (P ++ Z).drop (P.length + us.length) = Z.drop us.length := by rw [List.drop_append, List.drop_of_length_le (by omega), Nat.add_sub_cancel_left, List.nil_append]
  rw [e1, e2, List.take_append_of_le_length (by rw [List.length_append]; omega), List.take_of_length_le (by rw [List.length_append]; omega)]
  have e3 : (P ++ us ++ Z.drop us.length).drop (P.length + us.length + Q.length) = [] := List.drop_of_length_le (by simp only [List.length_append, List.length_drop]; omega)
  rw [e3, List.append_nil]
/-- What a call does that changes a row of the caller's, or moves it. -/
def RwMut (w : World) (V : Value → Value) (sz e : Nat) (a : Option Addr) (cap n' : Nat) (zs : List Value) (r : Ending) (w' : World) : Prop := ∃ a' c', r = .returned (V (.slice a' n' c')) ∧ (HX.rw sz e a' n' c' zs).X w' ∧ (∀ k, c' ≠ 0 → abk a' = some k → (cap ≠ 0 ∧ abk a = some k) ∨ w.heap.size ≤ k) ∧ Chg (fun k => cap ≠ 0 ∧ abk a = some k) w w'
section
variable {C : Cfg} {ρ : Env} {pre : List Nat} {rest hx : HX} {L : Stack} {m m' : Mem} {args : List SV} {r : SV} {t : Tree}
theorem node_rwm {f : Nat} {V : Value → Value} {sz e n cap n' : Nat} {a : Option Addr} {xs zs : List Value} (AS : List Nat → Array Value) (vs : Option Addr → Nat → Vals) (hargs : ∀ ids, (args.map (SV.den ρ ids)).toArray = AS ids) (hcall : ∀ ids w, pre <+: ids → Facts C m ρ ids (rest.and (HX.rw sz e a n cap xs)) w → Calls C.P f (AS ids) w (RwMut w V sz e a cap n' zs))
    (hdis : ∀ q, cap ≠ 0 → abk a = some q → ¬ rest.F q) (hM : ∀ q, cap ≠ 0 → abk a = some q → C.W.heap.size ≤ q ∨ C.M q)
    (hr : ∀ a' c' ids, r.den (ρ.add (vs a' c')) ids = V (.slice a' n' c')) (hhp : m'.hp = m.hp) (hfit : hpFits m.c m.hp.length m.hp = true) (hc : ∀ a' c', (ρ.add (vs a' c')).cnt = m'.c) (h1 : ∀ a' c' v, v ∈ (vs a' c').v → v.oneCell' = true)
    (h : ∀ a' c', (zs ≠ [] → a'.isSome = true) → (∀ k, c' ≠ 0 → abk a' = some k → ¬ rest.F k) → (∀ k, c' ≠ 0 → abk a' = some k → (cap ≠ 0 ∧ abk a = some k) ∨ (C.W.heap.size ≤ k ∧ ¬ (rest.and (HX.rw sz e a n cap xs)).F k)) → t.holds C (ρ.add (vs a' c')) pre (rest.and (HX.rw sz e a' n' c' zs)) L) : (Tree.call f args m r m' t).holds C ρ pre (rest.and (HX.rw sz e a n cap xs)) L := by
  intro ids w hp hf
  rw [hargs]
  refine (hcall ids w hp hf).mono ?_
  rintro e2 w' ⟨a', c', rfl, hX, hge, hch⟩
  have hg : w.grownBy w' (if cap = 0 then none else abk a) := ⟨hch.os, hch.tape, hch.output, hch.size, fun k hk hne => hch.block k hk fun ⟨q1, q2⟩ => hne (by rw [if_neg q1, q2])⟩
  have hrow1 : ∀ b, (if cap = 0 then none else abk a) = some b → cap ≠ 0 ∧ abk a = some b := fun b hb => by
    by_cases q : cap = 0
    · rw [if_pos q] at hb; cases hb
    · rw [if_neg q] at hb; exact ⟨q, hb⟩
  refine ⟨_, ids, _, by rw [← hr a' c' ids], List.prefix_refl _, hf.turn (hx' := rest.and (HX.rw sz e a' n' c' zs)) hg (fun b hb => ⟨.inr (hrow1 b hb), hM b (hrow1 b hb).1 (hrow1 b hb).2⟩) ⟨rest.loc w w' hf.x.1 fun k hk => hg.block k (hf.sep k (.inl hk)).1 fun q => hdis k (hrow1 k q.symm).1 (hrow1 k q.symm).2 hk, hX⟩ (fun k hk => ?_) hhp hfit (hc _ _) (h1 _ _), holds_pre t hp (h a' c' (rw_sm hX) (fun k q1 q2 hF => ?_) (fun k q1 q2 => ?_))⟩
  · rcases hk with hk | hk
    · exact .inl (.inl hk)
    · rcases hge k hk.1 hk.2 with q | q
      · exact .inl (.inr q)
      · exact .inr ⟨q, rw_blt hX hk.1 hk.2⟩
  · rcases hge k q1 q2 with q | q
    · exact hdis k q.1 q.2 hF
    · have := (hf.sep _ (.inl hF)).1; omega
  · rcases hge k q1 q2 with q | q
    · exact .inl q
    · exact .inr ⟨Nat.le_trans hf.chg.size q, fun hF => by have := (hf.sep _ hF).1; omega⟩
end
end Go.Eng
