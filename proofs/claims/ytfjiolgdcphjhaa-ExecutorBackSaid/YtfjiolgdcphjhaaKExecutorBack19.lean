/- Part 19 of the texts of a proof about the given program: what the statement's proof needs of them. -/
import Derived.Test.YtfjiolgdcphjhaaKExecutorBack18
namespace Go.Proofs.Ytfjiolgdcphjhaa
open Go.ChangeShapes Go.WideShapes Go.ChangeAt Go.RowKit Go.Syn Go.Eng
set_option linter.unusedVariables false
set_option linter.unusedSimpArgs false
set_option maxRecDepth 100000
def upN (most v : Int) : Int := if v < 0 ∨ most < v then most + 1 else v
def cnt (most v : Int) : Nat := (upN most v).toNat
theorem upN_cnt {most : Int} (h : 0 ≤ most) (v : Int) : upN most v = (cnt most v : Int) ∧ cnt most v ≤ most.toNat + 1 := by
  unfold cnt upN; split <;> omega
def nuL (ν : Nat → Int) (i k : Nat) : List Int := (List.range k).map fun j => ν (i + j)
def kpO (ν : Nat → Int) (i : Nat) : KpD := ⟨ν i, ν (i + 1), ν (i + 2), ν (i + 3)⟩
def kpL (ν : Nat → Int) (i k : Nat) : List KpD := (List.range k).map fun j => kpO ν (i + 4 * j)
def sesO (ν : Nat → Int) (i : Nat) : SsD := ⟨ν i, ν (i + 1), kpL ν (i + 3) (cnt 8 (ν (i + 2)))⟩
def sesE (ν : Nat → Int) (i : Nat) : Nat := i + 3 + 4 * cnt 8 (ν (i + 2))
def sesP (ν : Nat → Int) (q : Nat) : Nat → Nat
  | 0 => q
  | k + 1 => sesE ν (sesP ν q k)
def sesL (ν : Nat → Int) (q k : Nat) : List SsD := (List.range k).map fun j => sesO ν (sesP ν q j)
theorem range_snoc {α : Type} (f : Nat → α) (k : Nat) : (List.range (k + 1)).map f = (List.range k).map f ++ [f k] := by
  rw [List.range_succ, List.map_append]; rfl
def r16 (ν : Nat → Int) (q : Nat) : List Int := [ν (q + 0), ν (q + 1), ν (q + 2), ν (q + 3), ν (q + 4), ν (q + 5), ν (q + 6), ν (q + 7), ν (q + 8), ν (q + 9), ν (q + 10), ν (q + 11), ν (q + 12), ν (q + 13), ν (q + 14), ν (q + 15)]
def imD (ν : Nat → Int) : Im := ⟨ν 0, nuL ν 3 (cnt 7 (ν 2)), ν 1, r16 ν (3 + cnt 7 (ν 2)), sesL ν (3 + cnt 7 (ν 2) + 17) (cnt 16 (ν (3 + cnt 7 (ν 2) + 16)))⟩
def enD (ν : Nat → Int) : Nat := sesP ν (3 + cnt 7 (ν 2) + 17) (cnt 16 (ν (3 + cnt 7 (ν 2) + 16)))
structure Rds (bs : List Int) (P : Nat → Nat × Int) (ν : Nat → Int) : Prop where
  le : ∀ j, (P j).1 ≤ bs.length
  st : ∀ j, stN bs (P j) = P (j + 1)
  va : ∀ j, vaN bs (P j) = ν j
  fit : ∀ j, I64 (ν j)
theorem Rds.shift {bs : List Int} {P : Nat → Nat × Int} {ν : Nat → Int} (h : Rds bs P ν) (i : Nat) : Rds bs (fun j => P (i + j)) (fun j => ν (i + j)) := ⟨fun j => h.le _, fun j => h.st _, fun j => h.va _, fun j => h.fit _⟩
def plD (bs : List Int) (j : Nat) : Nat × Int := itN (stN bs) j (0, 0)
def nuD (bs : List Int) (j : Nat) : Int := vaN bs (plD bs j)
theorem rds (bs : List Int) (hb : Byt bs) : Rds bs (plD bs) (nuD bs) := ⟨it_le (stN_le bs) (Nat.zero_le _), fun _ => rfl, fun _ => rfl, fun j => vaN_fit hb _⟩
theorem Facts.newx {C : Cfg} {ρ : Env} {hx hx2 : HX} {m m' : Mem} {ids : List Nat} {w w' : World} {vs : Vals} {b ty : Nat} {cs' : List LV} (hf : Facts C m ρ ids hx w) (hbel : Below w.heap.size w w') (hb0 : w.heap.size ≤ b) (hb : w'.heap[b]? = some (.cells (cellsDen (ρ.add vs) (ids ++ [b]) cs').toArray ty (0, 0))) (hX : hx2.X w') (hge : ∀ k, hx2.F k → w.heap.size ≤ k ∧ k < w'.heap.size ∧ k ≠ b)
    (hhp : m'.hp = m.hp ++ [(ty, cs')]) (hfit : hpFits m.c m.hp.length m.hp = true) (hc : (ρ.add vs).cnt = m'.c) (h1 : ∀ v, v ∈ vs.v → v.oneCell' = true) : Facts C m' (ρ.add vs) (ids ++ [b]) (hx.and hx2) w' := by

  have hpre : ids <+: ids ++ [b] := List.prefix_append _ _
  refine ⟨by rw [hhp]; simp [hf.len], ?_, fun k t2 cs2 hk => ?_, ?_, hf.chg.trans (chg_of_below hbel), ⟨hx.loc w w' hf.x (fun b hb2 => hbel.block b (hf.sep b hb2).1), hX⟩, ?_, envUp hf hc h1⟩
  · refine List.nodup_append.2 ⟨hf.nod, by simp, ?_⟩
    intro x hx1 y hy
    simp only [List.mem_singleton] at hy
    subst hy
    have := hf.id_lt hx1
    omega
  · rw [hhp, List.getElem?_append] at hk
    split at hk
    · rename_i hlt
      rw [idAt_pre hpre (hf.len ▸ hlt), hbel.block _ (hf.id_lt (idAt_mem (hf.len ▸ hlt))), hf.blk k t2 cs2 hk, cellsDen_add hf.cnt.cnt hpre hf.len (List.all_eq_true.1 hfit _ (List.mem_of_getElem? hk))]
    · rename_i hge
      have hk0 : k - m.hp.length = 0 := by
        rcases Nat.eq_zero_or_pos (k - m.hp.length) with q | q
        · exact q
        · rw [List.getElem?_eq_none (by simp; omega)] at hk; cases hk
      rw [hk0] at hk
      simp only [List.getElem?_cons_zero, Option.some.injEq, Prod.mk.injEq] at hk
      obtain ⟨rfl, rfl⟩ := hk
      have hkl : k = ids.length := by have := hf.len; omega
      have h2 : idAt (ids ++ [b]) k = b := by simp [idAt, hkl]
      rw [h2]; exact hb
  · intro id hid
    rcases List.mem_append.1 hid with h | h
    · exact hf.own id h
    · simp only [List.mem_singleton] at h; subst h; exact .inl (Nat.le_trans hf.chg.size hb0)
  · intro b2 hb2
    simp only [List.mem_append, List.mem_singleton, not_or]
    rcases hb2 with hb2 | hb2
    · obtain ⟨h3, h4⟩ := hf.sep b2 hb2
      exact ⟨Nat.lt_of_lt_of_le h3 hbel.size, h4, by omega⟩
    · obtain ⟨h3, h4, h5⟩ := hge b2 hb2
      exact ⟨h4, fun q => by have := hf.id_lt q; omega, h5⟩

section
variable {C : Cfg} {ρ : Env} {pre : List Nat} {hx : HX} {L : Stack} {m m' : Mem} {args : List SV} {r : SV} {t : Tree} {a : Option Addr} {cap : Nat} {bs : List Int}
theorem node_rnew (cs' : List LV) (vs : Option Addr → Nat → Vals) (hP : C.P = Try.prog) (hargs : ∀ ids, (args.map (SV.den ρ ids)).toArray = #[.slice a bs.length cap]) (hH : ∀ ids w, Facts C m ρ ids hx w → Cells w a (bcells bs)) (hl : bs.length ≤ 140737488355328)
    (hcs' : ∀ a' c' ids, cellsDen (ρ.add (vs a' c')) ids cs' = rcells a' c' bs 0 0) (hr : r = .lf (.ptr m.hp.length 0)) (hhp : m'.hp = m.hp ++ [(162, cs')]) (hfit : hpFits m.c m.hp.length m.hp = true) (hc : ∀ a' c', (ρ.add (vs a' c')).cnt = m'.c) (h1 : ∀ a' c' v, v ∈ (vs a' c').v → v.oneCell' = true)
    (h : ∀ a' c', bs.length ≤ c' → (bs ≠ [] → a'.isSome = true) → (∀ k, c' ≠ 0 → abk a' = some k → C.W.heap.size ≤ k ∧ ¬ hx.F k) → t.holds C (ρ.add (vs a' c')) pre (hx.and (frow a' c' bs)) L) : (Tree.call 64 args m r m' t).holds C ρ pre hx L := by
  intro ids w hp hf
  rw [hargs, hP]
  refine (rnew_any a cap bs w (hH ids w hf) hl).mono ?_
  rintro e w' ⟨b, a', c', rfl, hb0, hb, hX, hfr, hbel⟩
  have hpre : ids <+: ids ++ [b] := List.prefix_append _ _
  refine ⟨vs a' c', ids ++ [b], hx.and (frow a' c' bs), ?_, hpre, Facts.newx hf hbel hb0 ?_ hX (fun k hk => ⟨(hfr k hk.1 hk.2).1, rw_ltx hX hk.1 hk.2, (hfr k hk.1 hk.2).2⟩) hhp hfit (hc _ _) (h1 _ _), holds_pre t (hp.trans hpre) (h a' c' (frow_le hX) (row_some hX) fun k k1 k2 => ⟨Nat.le_trans hf.chg.size (hfr k k1 k2).1, fun q => by have := (hf.sep _ q).1; have := (hfr k k1 k2).1; omega⟩)⟩
  · subst hr
    simp only [SV.den, LV.den, idAt_last _ _ hf.len]
  · rw [hcs']; exact hb
theorem node_nu {p p' : Nat × Int} {x : Int} (n : Nat) (cs cs' : List LV) (hok : RdOk hx a cap bs) (hix : p.1 ≤ bs.length) (hst : stN bs p = p') (hva : vaN bs p = x) (hP : C.P = Try.prog) (hn : m.hp[n]? = some (162, cs)) (hcs : ∀ ids, cellsDen ρ ids cs = rcP a cap bs p)
    (hargs : ∀ ids, (args.map (SV.den ρ ids)).toArray = #[.pointer (some ⟨idAt ids n, 0, none⟩)]) (hhp : m'.hp = m.hp.set n (162, cs')) (hcs' : ∀ ids, cellsDen (ρ.add ⟨[(p'.1 : Int), p'.2, x], [], [], [bs.length, cap], [a]⟩) ids cs' = rcP a cap bs p') (hr : ∀ ids, r.den (ρ.add ⟨[(p'.1 : Int), p'.2, x], [], [], [bs.length, cap], [a]⟩) ids = .int .i64 x) (hfit : hpFits m.c m.hp.length m.hp = true) (hc : (ρ.add ⟨[(p'.1 : Int), p'.2, x], [], [], [bs.length, cap], [a]⟩).cnt = m'.c)
    (h : t.holds C (ρ.add ⟨[(p'.1 : Int), p'.2, x], [], [], [bs.length, cap], [a]⟩) pre hx L) : (Tree.call 65 args m r m' t).holds C ρ pre hx L := by
  subst hst; subst hva
  exact node_rd n ⟨[((stN bs p).1 : Int), (stN bs p).2, vaN bs p], [], [], [bs.length, cap], [a]⟩ (fun b => #[.pointer (some ⟨b, 0, none⟩)]) hok hix hP hn hcs hargs (fun w b h => rint_any b a cap bs p.1 p.2 w h) cs' hhp hcs' hr hfit hc oneNil h
def mrow (a : Option Addr) (c : Nat) (M : List Int) : HX := HX.rw 1 3 a M.length c (M.map (Value.int .i64))
theorem mrow_snoc (a : Option Addr) (c : Nat) (M : List Int) (x : Int) : HX.rw 1 3 a (M.length + 1) c (M.map (Value.int .i64) ++ [.int .i64 x]) = mrow a c (M ++ [x]) := by
  unfold mrow
  rw [List.length_append, List.map_append]; rfl
theorem info_i64 : (Try.prog.info? 3).map (fun i => (i.zero, i.size, i.bytes)) = some (some (.int .i64 0), 1, 8) := by kernel_rfl
theorem node_ipush {ty : Nat} {ps : List (Nat × SV)} {rest : HX} {so xo : Operand} {ac : Go.Call} {e2 : Nat} {lvs : List LV} (hC : C.P = Try.prog) (hac : ac = { callee := .builtin .append, args := #[so, xo], argTypes := #[22, 22] }) (a : Option Addr) (cap : Nat) (M : List Int) (x : Int) (bn : Nat) (hso : ∀ ids, envOf ρ ids ps so = .slice a M.length cap) (hxo : ∀ ids, envOf ρ ids ps xo = .slice (some ⟨idAt ids bn, 0, none⟩) 1 1)
    (hn : m.hp[bn]? = some (e2, lvs)) (hlv : ∀ ids, cellsDen ρ ids lvs = [.int .i64 x]) (hap : Apart C.W rest (mrow a cap M)) (hl : M.length ≤ 1000000)
    (hr : ∀ a' cap' ids, r.den (ρ.add ⟨[], [], [], [M.length + 1, cap'], [a']⟩) ids = .slice a' (M.length + 1) cap') (hhp : m'.hp = m.hp) (hfit : hpFits m.c m.hp.length m.hp = true) (hc : ∀ a' cap', (ρ.add ⟨[], [], [], [M.length + 1, cap'], [a']⟩).cnt = m'.c)
    (h : ∀ a' cap', Apart C.W rest (mrow a' cap' (M ++ [x])) → t.holds C (ρ.add ⟨[], [], [], [M.length + 1, cap'], [a']⟩) pre (rest.and (mrow a' cap' (M ++ [x]))) L) :
    (Tree.gen (.call ac) ty ps m (some r) m' t).holds C ρ pre (rest.and (mrow a cap M)) L := by
  obtain ⟨P, W, MM, R⟩ := C
  cases hC
  refine node_pushs (z := .int .i64 0) (sz := 1) (bytes := 8) hac (by kernel_rfl) info_i64 rfl (by decide) a M.length cap (M.map (Value.int .i64)) [.int .i64 x] bn hso hxo hn hlv rfl (fun v hv => by rw [List.mem_singleton.1 hv]; rfl) (fun q h1 h2 hF => (hap q ⟨h1, h2⟩).2 hF) (fun q h1 h2 => .inl (hap q ⟨h1, h2⟩).1) (by simp [maxLen]; omega) (by omega) hr hhp hfit hc ?_
  intro a' c' hc' hdis hwh
  rw [mrow_snoc]
  refine h a' c' fun q hq => ⟨?_, hdis q hq.2⟩
  rcases hwh with ⟨z1, z2⟩ | ⟨g, z1, z2, z3⟩
  · exact (hap q ⟨z1, by rw [← z2]; exact hq.2⟩).1
  · rw [hq.2] at z1; cases z1; exact z2
theorem xupto_any (nb : Nat) (a : Option Addr) (cap : Nat) (bs : List Int) (p : Nat × Int) (most : Int) (hm : 0 ≤ most ∧ most ≤ 1000) (w : World) (H : RdAt w nb a cap bs p.1 p.2) :
    Calls Try.prog 66 #[.pointer (some ⟨nb, 0, none⟩), .int .i64 most] w (At1 w nb 162 (.int .i64 (upN most (vaN bs p))) (rcP a cap bs (stN bs p))) := by
  refine calls_at (tab_ok _) Try.func66 rfl tXUpTo (ρ := ⟨[(p.1 : Int), p.2, most], [], [], [bs.length, cap], [a]⟩) (ids := [nb]) (hx := HX.cl a (bcells bs)) (M := fun x => x = nb) (by kernel_rfl) (Facts.initx rfl oneNil H.blk (by kernel_rfl) (by kernel_rfl) H.mem H.sepc) ?_
  obtain ⟨x, ex⟩ : ∃ x, x = vaN bs p := ⟨_, rfl⟩
  obtain ⟨p', ep⟩ : ∃ p', p' = stN bs p := ⟨_, rfl⟩
  rw [← ex, ← ep]
  refine node_nu 0 [.sl 0 (.var 0) (.var 1), .int .i64 (.var 0), .int .i64 (.var 1)] [.sl 1 (.var 2) (.var 3), .int .i64 (.var 3), .int .i64 (.var 4)] H.ok H.ix ep.symm ex.symm rfl rfl (by intros; kernel_rfl) (by intros; kernel_rfl) rfl (by intros; kernel_rfl) (by intros; kernel_rfl) rfl (by kernel_rfl) ?_
  have hw : IntKind.i64.wrap (most + 1) = most + 1 := wrap_i64 (by omega)
  by_cases h1 : x < 0
  · refine br_T (decide (x < 0)) (by kernel_rfl) (decide_eq_true h1) ?_
    exact at1_done (fun _ => Eq.trans (b := .int .i64 (IntKind.i64.wrap (most + 1))) (by kernel_rfl) (by rw [hw, upN, if_pos (.inl h1)])) (by intros; kernel_rfl)
  refine br_F (decide (x < 0)) (by kernel_rfl) (decide_eq_false h1) ?_
  by_cases h2 : most < x
  · refine br_T (decide (x > most)) (by kernel_rfl) (decide_eq_true h2) ?_
    exact at1_done (fun _ => Eq.trans (b := .int .i64 (IntKind.i64.wrap (most + 1))) (by kernel_rfl) (by rw [hw, upN, if_pos (.inr h2)])) (by intros; kernel_rfl)
  refine br_F (decide (x > most)) (by kernel_rfl) (decide_eq_false h2) ?_
  exact at1_done (fun _ => Eq.trans (b := .int .i64 x) (by kernel_rfl) (by rw [upN, if_neg (by omega)])) (by intros; kernel_rfl)
theorem node_up {p p' : Nat × Int} {x most : Int} {k : Nat} (n : Nat) (cs cs' : List LV) (hm : 0 ≤ most ∧ most ≤ 1000) (hok : RdOk hx a cap bs) (hix : p.1 ≤ bs.length) (hst : stN bs p = p') (hva : vaN bs p = x) (hk : upN most x = (k : Int)) (hP : C.P = Try.prog) (hn : m.hp[n]? = some (162, cs)) (hcs : ∀ ids, cellsDen ρ ids cs = rcP a cap bs p)
    (hargs : ∀ ids, (args.map (SV.den ρ ids)).toArray = #[.pointer (some ⟨idAt ids n, 0, none⟩), .int .i64 most]) (hhp : m'.hp = m.hp.set n (162, cs')) (hcs' : ∀ ids, cellsDen (ρ.add ⟨[(p'.1 : Int), p'.2, (k : Int)], [], [], [bs.length, cap], [a]⟩) ids cs' = rcP a cap bs p') (hr : ∀ ids, r.den (ρ.add ⟨[(p'.1 : Int), p'.2, (k : Int)], [], [], [bs.length, cap], [a]⟩) ids = .int .i64 (k : Int)) (hfit : hpFits m.c m.hp.length m.hp = true) (hc : (ρ.add ⟨[(p'.1 : Int), p'.2, (k : Int)], [], [], [bs.length, cap], [a]⟩).cnt = m'.c)
    (h : t.holds C (ρ.add ⟨[(p'.1 : Int), p'.2, (k : Int)], [], [], [bs.length, cap], [a]⟩) pre hx L) : (Tree.call 66 args m r m' t).holds C ρ pre hx L := by
  refine node_rd n ⟨[(p'.1 : Int), p'.2, (k : Int)], [], [], [bs.length, cap], [a]⟩ (fun b => #[.pointer (some ⟨b, 0, none⟩), .int .i64 most]) hok hix hP hn hcs hargs (fun w b h => ?_) cs' hhp hcs' hr hfit hc oneNil h
  have := xupto_any b a cap bs p most hm w h
  rw [hva, hst, hk] at this
  exact this
end
def decX (bs : List Int) : Int := if 16384 < bs.length then 44 else if doneB bs.length (plD bs (enD (nuD bs))).1 (plD bs (enD (nuD bs))).2 ≠ 0 then 44 else if validI (imD (nuD bs)) then 0 else 44
def decI (bs : List Int) : Im := if decX bs = 0 then imD (nuD bs) else im0
theorem RdOk.and {hx h2 : HX} {a : Option Addr} {cap : Nat} {bs : List Int} (h : RdOk hx a cap bs) : RdOk (hx.and h2) a cap bs := ⟨fun w q => h.cl w q.1, fun k q => .inl (h.fr k q), h.byt, h.len, h.cap⟩
def DmI (W : World) (R : HX) (P : Nat → Nat × Int) (ν : Nat → Int) (n : Nat) (bl rc : Nat) (ra : Option Addr) (vs : Vals) (hx : HX) : Prop := ∃ (k : Nat) (a : Option Addr) (c : Nat), k ≤ n ∧ Apart W R (mrow a c (nuL ν 3 k)) ∧
  vs = ⟨[(k : Int), ν 0, ν 1, 0, 0, 0, 0, 0, 0, 0, 0, 0, 0, 0, 0, 0, 0, 0, 0, ((P (3 + k)).1 : Int), (P (3 + k)).2], [], [], [(nuL ν 3 k).length, c, 0, 0, bl, rc], [a, none, ra]⟩ ∧ hx = R.and (mrow a c (nuL ν 3 k))
def DsI (W : World) (R : HX) (P : Nat → Nat × Int) (ν : Nat → Int) (ep sl : Int) (rr : List Int) (q n : Nat) (ml mc bl rc : Nat) (ma ra : Option Addr) (vs : Vals) (hx : HX) : Prop := ∃ (k : Nat) (a : Option Addr) (c : Nat) (ds : List SE), k ≤ n ∧ ds.map SE.s = sesL ν q k ∧ Dj a c ds ∧ Apart W R (ksR ds) ∧ Apart W R (srow a c ds) ∧
  vs = ⟨[(k : Int), ep, sl] ++ rr ++ [((P (sesP ν q k)).1 : Int), (P (sesP ν q k)).2], [], [], [ml, mc, ds.length, c, bl, rc], [ma, a, ra]⟩ ∧ hx = (R.and (ksR ds)).and (srow a c ds)
def DkI (W : World) (T : HX) (P : Nat → Nat × Int) (ν : Nat → Int) (q n : Nat) (no ack : Int) (bl rc : Nat) (ra : Option Addr) (vs : Vals) (hx : HX) : Prop := ∃ (k : Nat) (a : Option Addr) (c : Nat), k ≤ n ∧ Apart W T (krow a c (kpL ν q k)) ∧
  vs = ⟨[(k : Int), ((P (q + 4 * k)).1 : Int), (P (q + 4 * k)).2, no, ack], [], [], [bl, rc, (kpL ν q k).length, c], [ra, a]⟩ ∧ hx = T.and (krow a c (kpL ν q k))
theorem nuL_len (ν : Nat → Int) (i k : Nat) : (nuL ν i k).length = k := by unfold nuL; simp
theorem kpL_len (ν : Nat → Int) (i k : Nat) : (kpL ν i k).length = k := by unfold kpL; simp
theorem sesL_len (ν : Nat → Int) (i k : Nat) : (sesL ν i k).length = k := by unfold sesL; simp
set_option maxHeartbeats 16000000 in
theorem xdecode_any (a : Option Addr) (cap : Nat) (bs : List Int) (w : World) (H : Cells w a (bcells bs)) (hb : Byt bs) (hl : bs.length ≤ 140737488355328) : Calls Try.prog 30 #[.slice a bs.length cap] w (ImNew w (fun v => .tuple #[v, .int .i64 (decX bs)]) (decI bs)) := by
  refine calls_at (tab_ok _) Try.func30 rfl tXDec (ρ := ⟨[], [], [], [bs.length, cap], [a]⟩) (ids := []) (hx := HX.nil) (by kernel_rfl) (Facts.initP rfl oneNil) ?_
  have keep : ∀ {m : Mem} {ρ : Env} {ids : List Nat} {hx : HX} {w2 : World} {R : Ending → World → Prop}, Facts ⟨Try.prog, w, fun _ => False, R⟩ m ρ ids hx w2 → Cells w2 a (bcells bs) := fun hf => cl_stay H (fun k hk => hf.chg.block k hk (fun q => q))
  obtain ⟨E, eE⟩ : ∃ E, E = decX bs := ⟨_, rfl⟩
  obtain ⟨DI, eDI⟩ : ∃ D, D = decI bs := ⟨_, rfl⟩
  rw [← eE, ← eDI]
  have bad : ∀ {v : SV} {m : Mem} {ρ : Env} {hx : HX} {L : Stack} {pre : List Nat}, E = 44 → (∀ ids, v.den ρ ids = .tuple #[imV im0 none 0 none 0, .int .i64 44]) → (Tree.done v m).holds ⟨Try.prog, w, fun _ => False, ImNew w (fun v => .tuple #[v, .int .i64 E]) DI⟩ ρ pre hx L := by
    intro v m ρ hx L pre h1 h2 ids w2 hp hf
    have h3 : DI = im0 := by rw [eDI]; unfold decI; rw [← eE, h1]; rfl
    rw [h1, h3, h2]
    refine ⟨none, 0, none, 0, [], rfl, rfl, ⟨fun i j e e' _ h => by simp at h, fun e he => (by cases he)⟩, (fun q hq => by
      rcases hq with ⟨e, he, _⟩ | hq
      · cases he
      · exact absurd rfl hq.1), ⟨cl_nil _ _, ⟨fun e he => (by cases he), HX.rw_nil _ _ _ _⟩⟩, ?_, hf.chg.below⟩
    rintro k (hk | ⟨e, he, _⟩ | hk)
    · exact absurd rfl hk.1
    · cases he
    · exact absurd rfl hk.1
  by_cases h0 : 16384 < bs.length
  · exact br_T (decide ((bs.length : Int) > 16384)) (by kernel_rfl) (decide_eq_true (by omega)) (bad (by rw [eE, decX, if_pos h0]) (by intros; kernel_rfl))
  refine br_F (decide ((bs.length : Int) > 16384)) (by kernel_rfl) (decide_eq_false (by omega)) ?_
  refine node_rnew (a := a) (cap := cap) (bs := bs) [.sl 1 (.var 2) (.var 3), .int .i64 (.var 0), .int .i64 (.var 1)] (fun a' c' => ⟨[0, 0], [], [], [bs.length, c'], [a']⟩) rfl (by intros; kernel_rfl) (fun ids w2 hf => keep hf) hl (by intros; kernel_rfl) rfl rfl rfl (by intros; kernel_rfl) (fun _ _ => oneNil) ?_
  intro ra rc hbc hsm hfr
  obtain ⟨R, eR⟩ : ∃ R, R = HX.nil.and (frow ra rc bs) := ⟨_, rfl⟩
  have hok : RdOk R ra rc bs := by
    rw [eR]
    refine ⟨fun w h => frow_cells h.2, fun k h => .inr ?_, hb, hl, hbc⟩
    obtain ⟨hne, rfl⟩ := h
    have h0 : bs ≠ [] := fun q => hne (by rw [q]; rfl)
    have hc0 : rc ≠ 0 := fun q => h0 (List.eq_nil_of_length_eq_zero (by omega))
    exact ⟨hc0, by obtain ⟨x, hx⟩ := Option.isSome_iff_exists.1 (hsm h0); rw [hx]; rfl⟩
  rw [← eR]
  obtain ⟨P, eP⟩ : ∃ P, P = plD bs := ⟨_, rfl⟩
  obtain ⟨ν, eν⟩ : ∃ ν, ν = nuD bs := ⟨_, rfl⟩
  have hR : Rds bs P ν := by rw [eP, eν]; exact rds bs hb
  have hE2 : E = if doneB bs.length (P (enD ν)).1 (P (enD ν)).2 ≠ 0 then 44 else if validI (imD ν) then 0 else 44 := by rw [eE, eP, eν]; unfold decX; rw [if_neg h0]
  have hD2 : DI = if E = 0 then imD ν else im0 := by rw [eDI, eE, eν]; rfl
  have hp0 : P 0 = (0, 0) := by rw [eP]; rfl
  obtain ⟨n, en⟩ : ∃ n, n = cnt 7 (ν 2) := ⟨_, rfl⟩
  have hn7 := upN_cnt (most := 7) (by decide) (ν 2)
  rw [← en] at hn7
  have hn8 : n ≤ 8 := hn7.2

  refine node_nu 2 [.sl 1 (.var 2) (.var 3), .int .i64 (.var 0), .int .i64 (.var 1)] [.sl 2 (.var 4) (.var 5), .int .i64 (.var 2), .int .i64 (.var 3)] hok (p := (0, 0)) (Nat.zero_le _) (p' := P 1) (by rw [← hp0]; exact hR.st 0) (x := ν 0) (by rw [← hp0]; exact hR.va 0) rfl rfl (by intros; kernel_rfl) (by intros; kernel_rfl) rfl (by intros; kernel_rfl) (by intros; kernel_rfl) rfl (by kernel_rfl) ?_
  refine node_nu 2 [.sl 2 (.var 4) (.var 5), .int .i64 (.var 2), .int .i64 (.var 3)] [.sl 3 (.var 6) (.var 7), .int .i64 (.var 5), .int .i64 (.var 6)] hok (p := P 1) (hR.le 1) (p' := P 2) (hR.st 1) (x := ν 1) (hR.va 1) rfl rfl (by intros; kernel_rfl) (by intros; kernel_rfl) rfl (by intros; kernel_rfl) (by intros; kernel_rfl) rfl (by kernel_rfl) ?_
  refine node_up 2 [.sl 3 (.var 6) (.var 7), .int .i64 (.var 5), .int .i64 (.var 6)] [.sl 4 (.var 8) (.var 9), .int .i64 (.var 8), .int .i64 (.var 9)] (by decide) hok (p := P 2) (hR.le 2) (p' := P 3) (hR.st 2) (x := ν 2) (hR.va 2) hn7.1 rfl rfl (by intros; kernel_rfl) (by intros; kernel_rfl) rfl (by intros; kernel_rfl) (by intros; kernel_rfl) rfl (by kernel_rfl) ?_
  refine loop_i (DmI w R P ν n bs.length rc ra) (fun vs => n - (vs.i.headD 0).toNat) (fun ids w2 hp hf => ⟨R.and (mrow none 0 []), ⟨⟨hf.x, HX.rw_nil _ _ _ _⟩, fun q hq => hq.elim (fun z => hf.sep q z) (fun z => absurd rfl z.1)⟩, 0, none, 0, Nat.zero_le _, fun q hq => absurd rfl hq.1, (by intros; kernel_rfl), rfl⟩) ?_
  rintro vs hx' hcnt ⟨k, ma, mc, hk, hap, rfl, rfl⟩
  obtain ⟨M, eM⟩ : ∃ M, M = nuL ν 3 k := ⟨_, rfl⟩
  have hMl : M.length = k := by rw [eM, nuL_len]
  rw [← eM] at hap hcnt ⊢
  refine holds_env (ρ' := ⟨[0, 0, ((P 1).1 : Int), (P 1).2, ν 0, ((P 2).1 : Int), (P 2).2, ν 1, ((P 3).1 : Int), (P 3).2, (n : Int), (k : Int), ν 0, ν 1, 0, 0, 0, 0, 0, 0, 0, 0, 0, 0, 0, 0, 0, 0, 0, 0, ((P (3 + k)).1 : Int), (P (3 + k)).2], [], [], [bs.length, cap, bs.length, rc, bs.length, rc, bs.length, rc, bs.length, rc, M.length, mc, 0, 0, bs.length, rc], [a, ra, ra, ra, ra, ma, none, ra]⟩) (by kernel_rfl) ?_
  by_cases hlt : k < n
  · refine br_T (decide ((k : Int) < (n : Int))) (by kernel_rfl) (decide_eq_true (by omega)) ?_
    have hnx : M ++ [ν (3 + k)] = nuL ν 3 (k + 1) := by rw [eM]; unfold nuL; rw [range_snoc]
    have hwk : IntKind.i64.wrap ((k : Int) + 1) = ((k + 1 : Nat) : Int) := by rw [wrap_i64 (by omega)]; omega
    refine par_i ?_ ?_
    all_goals
      refine node_nu 2 [.sl 7 (.var 14) (.var 15), .int .i64 (.var 30), .int .i64 (.var 31)] [.sl 8 (.var 16) (.var 17), .int .i64 (.var 32), .int .i64 (.var 33)] hok.and (p := P (3 + k)) (hR.le _) (p' := P (3 + (k + 1))) (hR.st _) (x := ν (3 + k)) (hR.va _) rfl rfl (by intros; kernel_rfl) (by intros; kernel_rfl) rfl (by intros; kernel_rfl) (by intros; kernel_rfl) rfl (by kernel_rfl) ?_
      try refine par_i ?_ ?_
    all_goals
      refine node_ipush rfl rfl ma mc M (ν (3 + k)) 3 (by intros; kernel_rfl) (by intros; kernel_rfl) rfl (by intros; kernel_rfl) hap (by omega) (by intros; kernel_rfl) (by kernel_rfl) (by kernel_rfl) (by intros; kernel_rfl) ?_
      intro ma' mc' hap'
      have hl2 : (M ++ [ν (3 + k)]).length = M.length + 1 := by rw [List.length_append]; rfl
      refine again_V ⟨[((k + 1 : Nat) : Int), ν 0, ν 1, 0, 0, 0, 0, 0, 0, 0, 0, 0, 0, 0, 0, 0, 0, 0, 0, ((P (3 + (k + 1))).1 : Int), (P (3 + (k + 1))).2], [], [], [(M ++ [ν (3 + k)]).length, mc', 0, 0, bs.length, rc], [ma', none, ra]⟩ rfl (fun ids => Eq.trans (b := ⟨[IntKind.i64.wrap ((k : Int) + 1), ν 0, ν 1, 0, 0, 0, 0, 0, 0, 0, 0, 0, 0, 0, 0, 0, 0, 0, 0, ((P (3 + (k + 1))).1 : Int), (P (3 + (k + 1))).2], [], [], [M.length + 1, mc', 0, 0, bs.length, rc], [ma', none, ra]⟩) (by kernel_rfl) (by rw [hwk, hl2])) _ (fun w2 ids hf => ⟨hf.x, hf.sep⟩) ⟨⟨k + 1, ma', mc', hlt, by rw [← hnx]; exact hap', by rw [← hnx], by rw [← hnx]⟩, ?_⟩
      show n - (((k + 1 : Nat) : Int)).toNat < n - ((k : Int)).toNat
      omega
  refine br_F (decide ((k : Int) < (n : Int))) (by kernel_rfl) (decide_eq_false (by omega)) ?_
  obtain rfl : n = k := by omega
  obtain ⟨p, ep⟩ : ∃ p, p = fun i => P (3 + n + i) := ⟨_, rfl⟩
  obtain ⟨r, er⟩ : ∃ r, r = fun i => ν (3 + n + i) := ⟨_, rfl⟩
  have hr : Rds bs p r := by rw [ep, er]; exact hR.shift _
  have hp0' : P (3 + n) = p 0 := by rw [ep]; rfl
  rw [hp0']
  refine holds_env (ρ' := ⟨[0, 0, ((P 1).1 : Int), (P 1).2, ν 0, ((P 2).1 : Int), (P 2).2, ν 1, ((P 3).1 : Int), (P 3).2, (n : Int), (n : Int), ν 0, ν 1, 0, 0, 0, 0, 0, 0, 0, 0, 0, 0, 0, 0, 0, 0, 0, 0, ((p 0).1 : Int), (p 0).2], [], [], [bs.length, cap, bs.length, rc, bs.length, rc, bs.length, rc, bs.length, rc, M.length, mc, 0, 0, bs.length, rc], [a, ra, ra, ra, ra, ma, none, ra]⟩) (by kernel_rfl) ?_
  refine node_nu 2 [.sl 7 (.var 14) (.var 15), .int .i64 (.var 30), .int .i64 (.var 31)] [.sl 8 (.var 16) (.var 17), .int .i64 (.var 32), .int .i64 (.var 33)] hok.and (p := p 0) (hr.le 0) (p' := p 1) (hr.st 0) (x := r 0) (hr.va 0) rfl rfl (by intros; kernel_rfl) (by intros; kernel_rfl) rfl (by intros; kernel_rfl) (by intros; kernel_rfl) rfl (by kernel_rfl) ?_
  refine node_nu 2 [.sl 8 (.var 16) (.var 17), .int .i64 (.var 32), .int .i64 (.var 33)] [.sl 9 (.var 18) (.var 19), .int .i64 (.var 35), .int .i64 (.var 36)] hok.and (p := p 1) (hr.le 1) (p' := p 2) (hr.st 1) (x := r 1) (hr.va 1) rfl rfl (by intros; kernel_rfl) (by intros; kernel_rfl) rfl (by intros; kernel_rfl) (by intros; kernel_rfl) rfl (by kernel_rfl) ?_
  refine node_nu 2 [.sl 9 (.var 18) (.var 19), .int .i64 (.var 35), .int .i64 (.var 36)] [.sl 10 (.var 20) (.var 21), .int .i64 (.var 38), .int .i64 (.var 39)] hok.and (p := p 2) (hr.le 2) (p' := p 3) (hr.st 2) (x := r 2) (hr.va 2) rfl rfl (by intros; kernel_rfl) (by intros; kernel_rfl) rfl (by intros; kernel_rfl) (by intros; kernel_rfl) rfl (by kernel_rfl) ?_
  refine node_nu 2 [.sl 10 (.var 20) (.var 21), .int .i64 (.var 38), .int .i64 (.var 39)] [.sl 11 (.var 22) (.var 23), .int .i64 (.var 41), .int .i64 (.var 42)] hok.and (p := p 3) (hr.le 3) (p' := p 4) (hr.st 3) (x := r 3) (hr.va 3) rfl rfl (by intros; kernel_rfl) (by intros; kernel_rfl) rfl (by intros; kernel_rfl) (by intros; kernel_rfl) rfl (by kernel_rfl) ?_
  refine holds_env (ρ' := ⟨[0, 0, ((P 1).1 : Int), (P 1).2, ν 0, ((P 2).1 : Int), (P 2).2, ν 1, ((P 3).1 : Int), (P 3).2, (n : Int), (n : Int), ν 0, ν 1, 0, 0, 0, 0, 0, 0, 0, 0, 0, 0, 0, 0, 0, 0, 0, 0, ((p 0).1 : Int), (p 0).2, ((p 1).1 : Int), (p 1).2, r 0, ((p 2).1 : Int), (p 2).2, r 1, ((p 3).1 : Int), (p 3).2, r 2, ((p 4).1 : Int), (p 4).2, r 3], [], [], [bs.length, cap, bs.length, rc, bs.length, rc, bs.length, rc, bs.length, rc, M.length, mc, 0, 0, bs.length, rc, bs.length, rc, bs.length, rc, bs.length, rc, bs.length, rc], [a, ra, ra, ra, ra, ma, none, ra, ra, ra, ra, ra]⟩) (by kernel_rfl) ?_
  refine node_nu 2 [.sl 11 (.var 22) (.var 23), .int .i64 (.var 41), .int .i64 (.var 42)] [.sl 12 (.var 24) (.var 25), .int .i64 (.var 44), .int .i64 (.var 45)] hok.and (p := p 4) (hr.le 4) (p' := p 5) (hr.st 4) (x := r 4) (hr.va 4) rfl rfl (by intros; kernel_rfl) (by intros; kernel_rfl) rfl (by intros; kernel_rfl) (by intros; kernel_rfl) rfl (by kernel_rfl) ?_
  refine node_nu 2 [.sl 12 (.var 24) (.var 25), .int .i64 (.var 44), .int .i64 (.var 45)] [.sl 13 (.var 26) (.var 27), .int .i64 (.var 47), .int .i64 (.var 48)] hok.and (p := p 5) (hr.le 5) (p' := p 6) (hr.st 5) (x := r 5) (hr.va 5) rfl rfl (by intros; kernel_rfl) (by intros; kernel_rfl) rfl (by intros; kernel_rfl) (by intros; kernel_rfl) rfl (by kernel_rfl) ?_
  refine node_nu 2 [.sl 13 (.var 26) (.var 27), .int .i64 (.var 47), .int .i64 (.var 48)] [.sl 14 (.var 28) (.var 29), .int .i64 (.var 50), .int .i64 (.var 51)] hok.and (p := p 6) (hr.le 6) (p' := p 7) (hr.st 6) (x := r 6) (hr.va 6) rfl rfl (by intros; kernel_rfl) (by intros; kernel_rfl) rfl (by intros; kernel_rfl) (by intros; kernel_rfl) rfl (by kernel_rfl) ?_
  refine node_nu 2 [.sl 14 (.var 28) (.var 29), .int .i64 (.var 50), .int .i64 (.var 51)] [.sl 15 (.var 30) (.var 31), .int .i64 (.var 53), .int .i64 (.var 54)] hok.and (p := p 7) (hr.le 7) (p' := p 8) (hr.st 7) (x := r 7) (hr.va 7) rfl rfl (by intros; kernel_rfl) (by intros; kernel_rfl) rfl (by intros; kernel_rfl) (by intros; kernel_rfl) rfl (by kernel_rfl) ?_
  refine holds_env (ρ' := ⟨[0, 0, ((P 1).1 : Int), (P 1).2, ν 0, ((P 2).1 : Int), (P 2).2, ν 1, ((P 3).1 : Int), (P 3).2, (n : Int), (n : Int), ν 0, ν 1, 0, 0, 0, 0, 0, 0, 0, 0, 0, 0, 0, 0, 0, 0, 0, 0, ((p 0).1 : Int), (p 0).2, ((p 1).1 : Int), (p 1).2, r 0, ((p 2).1 : Int), (p 2).2, r 1, ((p 3).1 : Int), (p 3).2, r 2, ((p 4).1 : Int), (p 4).2, r 3, ((p 5).1 : Int), (p 5).2, r 4, ((p 6).1 : Int), (p 6).2, r 5, ((p 7).1 : Int), (p 7).2, r 6, ((p 8).1 : Int), (p 8).2, r 7], [], [], [bs.length, cap, bs.length, rc, bs.length, rc, bs.length, rc, bs.length, rc, M.length, mc, 0, 0, bs.length, rc, bs.length, rc, bs.length, rc, bs.length, rc, bs.length, rc, bs.length, rc, bs.length, rc, bs.length, rc, bs.length, rc], [a, ra, ra, ra, ra, ma, none, ra, ra, ra, ra, ra, ra, ra, ra, ra]⟩) (by kernel_rfl) ?_
  refine node_nu 2 [.sl 15 (.var 30) (.var 31), .int .i64 (.var 53), .int .i64 (.var 54)] [.sl 16 (.var 32) (.var 33), .int .i64 (.var 56), .int .i64 (.var 57)] hok.and (p := p 8) (hr.le 8) (p' := p 9) (hr.st 8) (x := r 8) (hr.va 8) rfl rfl (by intros; kernel_rfl) (by intros; kernel_rfl) rfl (by intros; kernel_rfl) (by intros; kernel_rfl) rfl (by kernel_rfl) ?_
  refine node_nu 2 [.sl 16 (.var 32) (.var 33), .int .i64 (.var 56), .int .i64 (.var 57)] [.sl 17 (.var 34) (.var 35), .int .i64 (.var 59), .int .i64 (.var 60)] hok.and (p := p 9) (hr.le 9) (p' := p 10) (hr.st 9) (x := r 9) (hr.va 9) rfl rfl (by intros; kernel_rfl) (by intros; kernel_rfl) rfl (by intros; kernel_rfl) (by intros; kernel_rfl) rfl (by kernel_rfl) ?_
  refine node_nu 2 [.sl 17 (.var 34) (.var 35), .int .i64 (.var 59), .int .i64 (.var 60)] [.sl 18 (.var 36) (.var 37), .int .i64 (.var 62), .int .i64 (.var 63)] hok.and (p := p 10) (hr.le 10) (p' := p 11) (hr.st 10) (x := r 10) (hr.va 10) rfl rfl (by intros; kernel_rfl) (by intros; kernel_rfl) rfl (by intros; kernel_rfl) (by intros; kernel_rfl) rfl (by kernel_rfl) ?_
  refine node_nu 2 [.sl 18 (.var 36) (.var 37), .int .i64 (.var 62), .int .i64 (.var 63)] [.sl 19 (.var 38) (.var 39), .int .i64 (.var 65), .int .i64 (.var 66)] hok.and (p := p 11) (hr.le 11) (p' := p 12) (hr.st 11) (x := r 11) (hr.va 11) rfl rfl (by intros; kernel_rfl) (by intros; kernel_rfl) rfl (by intros; kernel_rfl) (by intros; kernel_rfl) rfl (by kernel_rfl) ?_
  refine holds_env (ρ' := ⟨[0, 0, ((P 1).1 : Int), (P 1).2, ν 0, ((P 2).1 : Int), (P 2).2, ν 1, ((P 3).1 : Int), (P 3).2, (n : Int), (n : Int), ν 0, ν 1, 0, 0, 0, 0, 0, 0, 0, 0, 0, 0, 0, 0, 0, 0, 0, 0, ((p 0).1 : Int), (p 0).2, ((p 1).1 : Int), (p 1).2, r 0, ((p 2).1 : Int), (p 2).2, r 1, ((p 3).1 : Int), (p 3).2, r 2, ((p 4).1 : Int), (p 4).2, r 3, ((p 5).1 : Int), (p 5).2, r 4, ((p 6).1 : Int), (p 6).2, r 5, ((p 7).1 : Int), (p 7).2, r 6, ((p 8).1 : Int), (p 8).2, r 7, ((p 9).1 : Int), (p 9).2, r 8, ((p 10).1 : Int), (p 10).2, r 9, ((p 11).1 : Int), (p 11).2, r 10, ((p 12).1 : Int), (p 12).2, r 11], [], [], [bs.length, cap, bs.length, rc, bs.length, rc, bs.length, rc, bs.length, rc, M.length, mc, 0, 0, bs.length, rc, bs.length, rc, bs.length, rc, bs.length, rc, bs.length, rc, bs.length, rc, bs.length, rc, bs.length, rc, bs.length, rc, bs.length, rc, bs.length, rc, bs.length, rc, bs.length, rc], [a, ra, ra, ra, ra, ma, none, ra, ra, ra, ra, ra, ra, ra, ra, ra, ra, ra, ra, ra]⟩) (by kernel_rfl) ?_
  refine node_nu 2 [.sl 19 (.var 38) (.var 39), .int .i64 (.var 65), .int .i64 (.var 66)] [.sl 20 (.var 40) (.var 41), .int .i64 (.var 68), .int .i64 (.var 69)] hok.and (p := p 12) (hr.le 12) (p' := p 13) (hr.st 12) (x := r 12) (hr.va 12) rfl rfl (by intros; kernel_rfl) (by intros; kernel_rfl) rfl (by intros; kernel_rfl) (by intros; kernel_rfl) rfl (by kernel_rfl) ?_
  refine node_nu 2 [.sl 20 (.var 40) (.var 41), .int .i64 (.var 68), .int .i64 (.var 69)] [.sl 21 (.var 42) (.var 43), .int .i64 (.var 71), .int .i64 (.var 72)] hok.and (p := p 13) (hr.le 13) (p' := p 14) (hr.st 13) (x := r 13) (hr.va 13) rfl rfl (by intros; kernel_rfl) (by intros; kernel_rfl) rfl (by intros; kernel_rfl) (by intros; kernel_rfl) rfl (by kernel_rfl) ?_
  refine node_nu 2 [.sl 21 (.var 42) (.var 43), .int .i64 (.var 71), .int .i64 (.var 72)] [.sl 22 (.var 44) (.var 45), .int .i64 (.var 74), .int .i64 (.var 75)] hok.and (p := p 14) (hr.le 14) (p' := p 15) (hr.st 14) (x := r 14) (hr.va 14) rfl rfl (by intros; kernel_rfl) (by intros; kernel_rfl) rfl (by intros; kernel_rfl) (by intros; kernel_rfl) rfl (by kernel_rfl) ?_
  refine node_nu 2 [.sl 22 (.var 44) (.var 45), .int .i64 (.var 74), .int .i64 (.var 75)] [.sl 23 (.var 46) (.var 47), .int .i64 (.var 77), .int .i64 (.var 78)] hok.and (p := p 15) (hr.le 15) (p' := p 16) (hr.st 15) (x := r 15) (hr.va 15) rfl rfl (by intros; kernel_rfl) (by intros; kernel_rfl) rfl (by intros; kernel_rfl) (by intros; kernel_rfl) rfl (by kernel_rfl) ?_
  refine holds_env (ρ' := ⟨[0, 0, ((P 1).1 : Int), (P 1).2, ν 0, ((P 2).1 : Int), (P 2).2, ν 1, ((P 3).1 : Int), (P 3).2, (n : Int), (n : Int), ν 0, ν 1, 0, 0, 0, 0, 0, 0, 0, 0, 0, 0, 0, 0, 0, 0, 0, 0, ((p 0).1 : Int), (p 0).2, ((p 1).1 : Int), (p 1).2, r 0, ((p 2).1 : Int), (p 2).2, r 1, ((p 3).1 : Int), (p 3).2, r 2, ((p 4).1 : Int), (p 4).2, r 3, ((p 5).1 : Int), (p 5).2, r 4, ((p 6).1 : Int), (p 6).2, r 5, ((p 7).1 : Int), (p 7).2, r 6, ((p 8).1 : Int), (p 8).2, r 7, ((p 9).1 : Int), (p 9).2, r 8, ((p 10).1 : Int), (p 10).2, r 9, ((p 11).1 : Int), (p 11).2, r 10, ((p 12).1 : Int), (p 12).2, r 11, ((p 13).1 : Int), (p 13).2, r 12, ((p 14).1 : Int), (p 14).2, r 13, ((p 15).1 : Int), (p 15).2, r 14, ((p 16).1 : Int), (p 16).2, r 15], [], [], [bs.length, cap, bs.length, rc, bs.length, rc, bs.length, rc, bs.length, rc, M.length, mc, 0, 0, bs.length, rc, bs.length, rc, bs.length, rc, bs.length, rc, bs.length, rc, bs.length, rc, bs.length, rc, bs.length, rc, bs.length, rc, bs.length, rc, bs.length, rc, bs.length, rc, bs.length, rc, bs.length, rc, bs.length, rc, bs.length, rc, bs.length, rc], [a, ra, ra, ra, ra, ma, none, ra, ra, ra, ra, ra, ra, ra, ra, ra, ra, ra, ra, ra, ra, ra, ra, ra]⟩) (by kernel_rfl) ?_
  obtain ⟨sn, esn⟩ : ∃ sn, sn = cnt 16 (r 16) := ⟨_, rfl⟩
  have hs7 := upN_cnt (most := 16) (by decide) (r 16)
  rw [← esn] at hs7
  have hs17 : sn ≤ 17 := hs7.2
  refine node_up 2 [.sl 23 (.var 46) (.var 47), .int .i64 (.var 77), .int .i64 (.var 78)] [.sl 24 (.var 48) (.var 49), .int .i64 (.var 80), .int .i64 (.var 81)] (by decide) hok.and (p := p 16) (hr.le 16) (p' := p 17) (hr.st 16) (x := r 16) (hr.va 16) hs7.1 rfl rfl (by intros; kernel_rfl) (by intros; kernel_rfl) rfl (by intros; kernel_rfl) (by intros; kernel_rfl) rfl (by kernel_rfl) ?_
  obtain ⟨q, eq⟩ : ∃ q, q = 3 + n + 17 := ⟨_, rfl⟩
  have hpq : p 17 = P q := by rw [ep, eq]
  rw [hpq]
  obtain ⟨R1, eR1⟩ : ∃ R1, R1 = R.and (mrow ma mc M) := ⟨_, rfl⟩
  have hok1 : RdOk R1 ra rc bs := by rw [eR1]; exact hok.and
  rw [← eR1]
  refine holds_env (ρ' := ⟨[0, 0, ((P 1).1 : Int), (P 1).2, ν 0, ((P 2).1 : Int), (P 2).2, ν 1, ((P 3).1 : Int), (P 3).2, (n : Int), (n : Int), ν 0, ν 1, 0, 0, 0, 0, 0, 0, 0, 0, 0, 0, 0, 0, 0, 0, 0, 0, ((p 0).1 : Int), (p 0).2, ((p 1).1 : Int), (p 1).2, r 0, ((p 2).1 : Int), (p 2).2, r 1, ((p 3).1 : Int), (p 3).2, r 2, ((p 4).1 : Int), (p 4).2, r 3, ((p 5).1 : Int), (p 5).2, r 4, ((p 6).1 : Int), (p 6).2, r 5, ((p 7).1 : Int), (p 7).2, r 6, ((p 8).1 : Int), (p 8).2, r 7, ((p 9).1 : Int), (p 9).2, r 8, ((p 10).1 : Int), (p 10).2, r 9, ((p 11).1 : Int), (p 11).2, r 10, ((p 12).1 : Int), (p 12).2, r 11, ((p 13).1 : Int), (p 13).2, r 12, ((p 14).1 : Int), (p 14).2, r 13, ((p 15).1 : Int), (p 15).2, r 14, ((p 16).1 : Int), (p 16).2, r 15, ((P q).1 : Int), (P q).2, (sn : Int)], [], [], [bs.length, cap, bs.length, rc, bs.length, rc, bs.length, rc, bs.length, rc, M.length, mc, 0, 0, bs.length, rc, bs.length, rc, bs.length, rc, bs.length, rc, bs.length, rc, bs.length, rc, bs.length, rc, bs.length, rc, bs.length, rc, bs.length, rc, bs.length, rc, bs.length, rc, bs.length, rc, bs.length, rc, bs.length, rc, bs.length, rc, bs.length, rc, bs.length, rc], [a, ra, ra, ra, ra, ma, none, ra, ra, ra, ra, ra, ra, ra, ra, ra, ra, ra, ra, ra, ra, ra, ra, ra, ra]⟩) (by kernel_rfl) ?_
  refine loop_i (DsI w R1 P ν (ν 0) (ν 1) [r 0, r 1, r 2, r 3, r 4, r 5, r 6, r 7, r 8, r 9, r 10, r 11, r 12, r 13, r 14, r 15] q sn M.length mc bs.length rc ma ra) (fun vs => sn - (vs.i.headD 0).toNat) (fun ids w2 hp hf => ⟨(R1.and (ksR [])).and (srow none 0 []), ⟨⟨⟨hf.x, fun e he => by cases he⟩, srow_nil _ _⟩, fun z hz => by
    rcases hz with (hz | ⟨e, he, _⟩) | hz
    · exact hf.sep z hz
    · cases he
    · exact absurd hz (srow_none _ z)⟩, 0, none, 0, [], Nat.zero_le _, rfl, ⟨fun i j e e' _ h => by simp at h, fun e he => by cases he⟩, (fun z ⟨e, he, _⟩ => by cases he), (fun z hz => absurd hz (srow_none _ z)), (by intros; kernel_rfl), rfl⟩) ?_
  rintro vs hx' hcnt2 ⟨j, sa, sc, ds, hj, hdm, hdj, hapk, haps, rfl, rfl⟩
  have hdl : ds.length = j := by have := congrArg List.length hdm; rwa [List.length_map, sesL_len] at this
  obtain ⟨u, eu⟩ : ∃ u, u = sesP ν q j := ⟨_, rfl⟩
  rw [← eu] at hcnt2 ⊢
  refine holds_env (ρ' := ⟨[0, 0, ((P 1).1 : Int), (P 1).2, ν 0, ((P 2).1 : Int), (P 2).2, ν 1, ((P 3).1 : Int), (P 3).2, (n : Int), (n : Int), ν 0, ν 1, 0, 0, 0, 0, 0, 0, 0, 0, 0, 0, 0, 0, 0, 0, 0, 0, ((p 0).1 : Int), (p 0).2, ((p 1).1 : Int), (p 1).2, r 0, ((p 2).1 : Int), (p 2).2, r 1, ((p 3).1 : Int), (p 3).2, r 2, ((p 4).1 : Int), (p 4).2, r 3, ((p 5).1 : Int), (p 5).2, r 4, ((p 6).1 : Int), (p 6).2, r 5, ((p 7).1 : Int), (p 7).2, r 6, ((p 8).1 : Int), (p 8).2, r 7, ((p 9).1 : Int), (p 9).2, r 8, ((p 10).1 : Int), (p 10).2, r 9, ((p 11).1 : Int), (p 11).2, r 10, ((p 12).1 : Int), (p 12).2, r 11, ((p 13).1 : Int), (p 13).2, r 12, ((p 14).1 : Int), (p 14).2, r 13, ((p 15).1 : Int), (p 15).2, r 14, ((p 16).1 : Int), (p 16).2, r 15, ((P q).1 : Int), (P q).2, (sn : Int), (j : Int), ν 0, ν 1, r 0, r 1, r 2, r 3, r 4, r 5, r 6, r 7, r 8, r 9, r 10, r 11, r 12, r 13, r 14, r 15, ((P u).1 : Int), (P u).2], [], [], [bs.length, cap, bs.length, rc, bs.length, rc, bs.length, rc, bs.length, rc, M.length, mc, 0, 0, bs.length, rc, bs.length, rc, bs.length, rc, bs.length, rc, bs.length, rc, bs.length, rc, bs.length, rc, bs.length, rc, bs.length, rc, bs.length, rc, bs.length, rc, bs.length, rc, bs.length, rc, bs.length, rc, bs.length, rc, bs.length, rc, bs.length, rc, bs.length, rc, M.length, mc, ds.length, sc, bs.length, rc], [a, ra, ra, ra, ra, ma, none, ra, ra, ra, ra, ra, ra, ra, ra, ra, ra, ra, ra, ra, ra, ra, ra, ra, ra, ma, sa, ra]⟩) (by kernel_rfl) ?_
  obtain ⟨T, eT⟩ : ∃ T, T = (R1.and (ksR ds)).and (srow sa sc ds) := ⟨_, rfl⟩
  have hokT : RdOk T ra rc bs := by rw [eT]; exact hok1.and.and
  rw [← eT]
  by_cases hlt : j < sn
  case' neg =>
    refine br_F (decide ((j : Int) < (sn : Int))) (by kernel_rfl) (decide_eq_false (by omega)) ?_
    obtain rfl : j = sn := by omega
    have hu : u = enD ν := by rw [eu, eq, esn, er, en]; rfl
    obtain ⟨B, eB⟩ : ∃ B, B = doneB bs.length (P u).1 (P u).2 := ⟨_, rfl⟩
    rw [← hu, ← eB] at hE2
    refine node_at1 2 162 ⟨[((P u).1 : Int), B, B], [], [], [bs.length, rc], [ra]⟩ (us := rcP ra rc bs (P u)) (us' := rcells ra rc bs (P u).1 B) (V := .int .i64 B) (cs' := [.sl 28 (.var 56) (.var 57), .int .i64 (.var 104), .int .i64 (.var 105)]) (fun w b h => by rw [eB]; exact rdone_any b ra rc bs (P u).1 (P u).2 w h) (by intros; kernel_rfl) rfl (by intros; kernel_rfl) rfl (by intros; kernel_rfl) (by intros; kernel_rfl) rfl (by kernel_rfl) oneNil ?_
    by_cases hB : B = 0
    case' neg => exact br_T (B != 0) (by kernel_rfl) (by simpa using hB) (bad (by rw [hE2, if_pos hB]) (by intros; kernel_rfl))
    refine br_F (B != 0) (by kernel_rfl) (by simpa using hB) ?_
    obtain ⟨D, eD⟩ : ∃ D : Im, D = ⟨ν 0, M, ν 1, [r 0, r 1, r 2, r 3, r 4, r 5, r 6, r 7, r 8, r 9, r 10, r 11, r 12, r 13, r 14, r 15], ds.map SE.s⟩ := ⟨_, rfl⟩
    have hDi : imD ν = D := by
      rw [eD, hdm, eM]; unfold imD
      rw [← en, show ν (3 + n + 16) = r 16 from by rw [er], ← esn, ← eq]
      congr 1
      unfold r16
      rw [er]
    rw [hDi] at hE2 hD2
    rw [if_neg (fun z => z hB)] at hE2
    have hM64 : ∀ x ∈ M, I64 x := by
      rw [eM]; unfold nuL; intro x hx
      obtain ⟨i, _, rfl⟩ := List.mem_map.1 hx
      exact hR.fit _
    have at_ : ∀ {w2 : World}, T.X w2 → ImAt w2 D ma sa ds := fun h => by
      rw [eT] at h
      rw [eD]
      refine ⟨rfl, Ints.of_cells (show M.length ≤ _ by omega) hM64 ?_, tabR_at ⟨h.1.2, h.2⟩, rfl⟩
      have := h.1.1
      rw [eR1] at this
      exact rw_cells this.2
    have hVC : imV D ma mc sa sc = .agg ([.int .i64 (ν 0), .slice ma M.length mc, .int .i64 (ν 1), .int .i64 (r 0), .int .i64 (r 1), .int .i64 (r 2), .int .i64 (r 3), .int .i64 (r 4), .int .i64 (r 5), .int .i64 (r 6), .int .i64 (r 7), .int .i64 (r 8), .int .i64 (r 9), .int .i64 (r 10), .int .i64 (r 11), .int .i64 (r 12), .int .i64 (r 13), .int .i64 (r 14), .int .i64 (r 15), .slice sa ds.length sc] : List Value).toArray := by rw [eD]; unfold imV imC; simp only [List.length_map]; rfl
    refine node_P ⟨[], [validI D], [], [], []⟩ #[imV D ma mc sa sc] (.bool (validI D)) (by rw [hVC]; intros; kernel_rfl) (by intros; kernel_rfl) (by kernel_rfl) (by kernel_rfl) (by kernel_rfl) oneNil (fun ids w2 hp hf => xvalid_any D ma mc sa sc ds w2 (at_ hf.x) (by omega)) ?_
    rcases Bool.eq_false_or_eq_true (validI D) with hv | hv
    case' inr => exact br_T (!(validI D)) (by kernel_rfl) (by rw [hv]; rfl) (bad (by rw [hE2, hv]; rfl) (by intros; kernel_rfl))
    refine br_F (!(validI D)) (by kernel_rfl) (by rw [hv]; rfl) ?_
    have hE0 : E = 0 := by rw [hE2, hv]; rfl
    rw [if_pos hE0] at hD2
    rw [hD2, hE0]
    intro ids w2 hp hf
    refine ⟨ma, mc, sa, sc, ds, by rw [eD], ?_, hdj, ?_, ?_, ?_, hf.chg.below⟩
    · rw [hVC]; kernel_rfl
    all_goals have hX := hf.x
    all_goals rw [eT, eR1] at hX
    all_goals have hcl : ∀ z, (HX.cl ma (D.mem.map (Value.int .i64))).F z → (mrow ma mc M).F z := by rw [eD]; exact (rw_cl hX.1.1.2).2
    · intro z hz hz2
      have h2 : R1.F z := by rw [eR1]; exact .inr (hcl z hz2)
      exact hz.elim (fun y => (hapk z y).2 h2) (fun y => (haps z y).2 h2)
    · refine ⟨?_, ⟨hX.1.2, hX.2⟩⟩
      rw [eD]; exact (rw_cl hX.1.1.2).1
    · rintro z (hz | hz | hz)
      · exact (hap z (hcl z hz)).1
      · exact (hapk z hz).1
      · exact (haps z hz).1
  refine br_T (decide ((j : Int) < (sn : Int))) (by kernel_rfl) (decide_eq_true (by omega)) ?_
  obtain ⟨kn, ekn⟩ : ∃ kn, kn = cnt 8 (ν (u + 2)) := ⟨_, rfl⟩
  have hk7 := upN_cnt (most := 8) (by decide) (ν (u + 2))
  rw [← ekn] at hk7
  have hk9 : kn ≤ 9 := hk7.2
  refine node_nu 2 [.sl 27 (.var 54) (.var 55), .int .i64 (.var 102), .int .i64 (.var 103)] [.sl 28 (.var 56) (.var 57), .int .i64 (.var 104), .int .i64 (.var 105)] hokT (p := P u) (hR.le _) (p' := P (u + 1)) (hR.st _) (x := ν u) (hR.va _) rfl rfl (by intros; kernel_rfl) (by intros; kernel_rfl) rfl (by intros; kernel_rfl) (by intros; kernel_rfl) rfl (by kernel_rfl) ?_
  refine node_nu 2 [.sl 28 (.var 56) (.var 57), .int .i64 (.var 104), .int .i64 (.var 105)] [.sl 29 (.var 58) (.var 59), .int .i64 (.var 107), .int .i64 (.var 108)] hokT (p := P (u + 1)) (hR.le _) (p' := P (u + 2)) (hR.st _) (x := ν (u + 1)) (hR.va _) rfl rfl (by intros; kernel_rfl) (by intros; kernel_rfl) rfl (by intros; kernel_rfl) (by intros; kernel_rfl) rfl (by kernel_rfl) ?_
  refine node_up 2 [.sl 29 (.var 58) (.var 59), .int .i64 (.var 107), .int .i64 (.var 108)] [.sl 30 (.var 60) (.var 61), .int .i64 (.var 110), .int .i64 (.var 111)] (by decide) hokT (p := P (u + 2)) (hR.le _) (p' := P (u + 3)) (hR.st _) (x := ν (u + 2)) (hR.va _) hk7.1 rfl rfl (by intros; kernel_rfl) (by intros; kernel_rfl) rfl (by intros; kernel_rfl) (by intros; kernel_rfl) rfl (by kernel_rfl) ?_
  refine holds_env (ρ' := ⟨[0, 0, ((P 1).1 : Int), (P 1).2, ν 0, ((P 2).1 : Int), (P 2).2, ν 1, ((P 3).1 : Int), (P 3).2, (n : Int), (n : Int), ν 0, ν 1, 0, 0, 0, 0, 0, 0, 0, 0, 0, 0, 0, 0, 0, 0, 0, 0, ((p 0).1 : Int), (p 0).2, ((p 1).1 : Int), (p 1).2, r 0, ((p 2).1 : Int), (p 2).2, r 1, ((p 3).1 : Int), (p 3).2, r 2, ((p 4).1 : Int), (p 4).2, r 3, ((p 5).1 : Int), (p 5).2, r 4, ((p 6).1 : Int), (p 6).2, r 5, ((p 7).1 : Int), (p 7).2, r 6, ((p 8).1 : Int), (p 8).2, r 7, ((p 9).1 : Int), (p 9).2, r 8, ((p 10).1 : Int), (p 10).2, r 9, ((p 11).1 : Int), (p 11).2, r 10, ((p 12).1 : Int), (p 12).2, r 11, ((p 13).1 : Int), (p 13).2, r 12, ((p 14).1 : Int), (p 14).2, r 13, ((p 15).1 : Int), (p 15).2, r 14, ((p 16).1 : Int), (p 16).2, r 15, ((P q).1 : Int), (P q).2, (sn : Int), (j : Int), ν 0, ν 1, r 0, r 1, r 2, r 3, r 4, r 5, r 6, r 7, r 8, r 9, r 10, r 11, r 12, r 13, r 14, r 15, ((P u).1 : Int), (P u).2, ((P (u + 1)).1 : Int), (P (u + 1)).2, ν u, ((P (u + 2)).1 : Int), (P (u + 2)).2, ν (u + 1), ((P (u + 3)).1 : Int), (P (u + 3)).2, (kn : Int)], [], [], [bs.length, cap, bs.length, rc, bs.length, rc, bs.length, rc, bs.length, rc, M.length, mc, 0, 0, bs.length, rc, bs.length, rc, bs.length, rc, bs.length, rc, bs.length, rc, bs.length, rc, bs.length, rc, bs.length, rc, bs.length, rc, bs.length, rc, bs.length, rc, bs.length, rc, bs.length, rc, bs.length, rc, bs.length, rc, bs.length, rc, bs.length, rc, bs.length, rc, M.length, mc, ds.length, sc, bs.length, rc, bs.length, rc, bs.length, rc, bs.length, rc], [a, ra, ra, ra, ra, ma, none, ra, ra, ra, ra, ra, ra, ra, ra, ra, ra, ra, ra, ra, ra, ra, ra, ra, ra, ma, sa, ra, ra, ra, ra]⟩) (by kernel_rfl) ?_
  refine loop_i (DkI w T P ν (u + 3) kn (ν u) (ν (u + 1)) bs.length rc ra) (fun vs => kn - (vs.i.headD 0).toNat) (fun ids w2 hp hf => ⟨T.and (krow none 0 []), ⟨⟨hf.x, krow_nil _ _⟩, fun z hz => hz.elim (fun y => hf.sep z y) (fun y => absurd y (krow_none _ z))⟩, 0, none, 0, Nat.zero_le _, (fun z hz => absurd hz (krow_none _ z)), (by intros; kernel_rfl), rfl⟩) ?_
  rintro vs hx' hcnt3 ⟨i, ka, kc, hi, hapj, rfl, rfl⟩
  obtain ⟨l, el⟩ : ∃ l, l = kpL ν (u + 3) i := ⟨_, rfl⟩
  have hll : l.length = i := by rw [el, kpL_len]
  rw [← el] at hapj hcnt3 ⊢
  obtain ⟨v, ev⟩ : ∃ v, v = u + 3 + 4 * i := ⟨_, rfl⟩
  rw [← ev] at hcnt3 ⊢
  refine holds_env (ρ' := ⟨[0, 0, ((P 1).1 : Int), (P 1).2, ν 0, ((P 2).1 : Int), (P 2).2, ν 1, ((P 3).1 : Int), (P 3).2, (n : Int), (n : Int), ν 0, ν 1, 0, 0, 0, 0, 0, 0, 0, 0, 0, 0, 0, 0, 0, 0, 0, 0, ((p 0).1 : Int), (p 0).2, ((p 1).1 : Int), (p 1).2, r 0, ((p 2).1 : Int), (p 2).2, r 1, ((p 3).1 : Int), (p 3).2, r 2, ((p 4).1 : Int), (p 4).2, r 3, ((p 5).1 : Int), (p 5).2, r 4, ((p 6).1 : Int), (p 6).2, r 5, ((p 7).1 : Int), (p 7).2, r 6, ((p 8).1 : Int), (p 8).2, r 7, ((p 9).1 : Int), (p 9).2, r 8, ((p 10).1 : Int), (p 10).2, r 9, ((p 11).1 : Int), (p 11).2, r 10, ((p 12).1 : Int), (p 12).2, r 11, ((p 13).1 : Int), (p 13).2, r 12, ((p 14).1 : Int), (p 14).2, r 13, ((p 15).1 : Int), (p 15).2, r 14, ((p 16).1 : Int), (p 16).2, r 15, ((P q).1 : Int), (P q).2, (sn : Int), (j : Int), ν 0, ν 1, r 0, r 1, r 2, r 3, r 4, r 5, r 6, r 7, r 8, r 9, r 10, r 11, r 12, r 13, r 14, r 15, ((P u).1 : Int), (P u).2, ((P (u + 1)).1 : Int), (P (u + 1)).2, ν u, ((P (u + 2)).1 : Int), (P (u + 2)).2, ν (u + 1), ((P (u + 3)).1 : Int), (P (u + 3)).2, (kn : Int), (i : Int), ((P v).1 : Int), (P v).2, ν u, ν (u + 1)], [], [], [bs.length, cap, bs.length, rc, bs.length, rc, bs.length, rc, bs.length, rc, M.length, mc, 0, 0, bs.length, rc, bs.length, rc, bs.length, rc, bs.length, rc, bs.length, rc, bs.length, rc, bs.length, rc, bs.length, rc, bs.length, rc, bs.length, rc, bs.length, rc, bs.length, rc, bs.length, rc, bs.length, rc, bs.length, rc, bs.length, rc, bs.length, rc, bs.length, rc, M.length, mc, ds.length, sc, bs.length, rc, bs.length, rc, bs.length, rc, bs.length, rc, bs.length, rc, l.length, kc], [a, ra, ra, ra, ra, ma, none, ra, ra, ra, ra, ra, ra, ra, ra, ra, ra, ra, ra, ra, ra, ra, ra, ra, ra, ma, sa, ra, ra, ra, ra, ra, ka]⟩) (by kernel_rfl) ?_
  by_cases hlti : i < kn
  · refine br_T (decide ((i : Int) < (kn : Int))) (by kernel_rfl) (decide_eq_true (by omega)) ?_
    obtain ⟨x, ex⟩ : ∃ x, x = kpO ν v := ⟨_, rfl⟩
    have hnx : l ++ [x] = kpL ν (u + 3) (i + 1) := by rw [el, ex, ev]; unfold kpL; rw [range_snoc]
    have hv4 : v + 4 = u + 3 + 4 * (i + 1) := by omega
    have hwk : IntKind.i64.wrap ((i : Int) + 1) = ((i + 1 : Nat) : Int) := by rw [wrap_i64 (by omega)]; omega
    refine par_i ?_ ?_
    all_goals
      refine node_nu 2 [.sl 31 (.var 62) (.var 63), .int .i64 (.var 114), .int .i64 (.var 115)] [.sl 33 (.var 66) (.var 67), .int .i64 (.var 118), .int .i64 (.var 119)] hokT.and (p := P v) (hR.le _) (p' := P (v + 1)) (hR.st _) (x := ν v) (hR.va _) rfl rfl (by intros; kernel_rfl) (by intros; kernel_rfl) rfl (by intros; kernel_rfl) (by intros; kernel_rfl) rfl (by kernel_rfl) ?_
      try refine par_i ?_ ?_
    all_goals
      refine node_nu 2 [.sl 33 (.var 66) (.var 67), .int .i64 (.var 118), .int .i64 (.var 119)] [.sl 34 (.var 68) (.var 69), .int .i64 (.var 121), .int .i64 (.var 122)] hokT.and (p := P (v + 1)) (hR.le _) (p' := P (v + 2)) (hR.st _) (x := ν (v + 1)) (hR.va _) rfl rfl (by intros; kernel_rfl) (by intros; kernel_rfl) rfl (by intros; kernel_rfl) (by intros; kernel_rfl) rfl (by kernel_rfl) ?_
      try refine par_i ?_ ?_
    all_goals
      refine node_nu 2 [.sl 34 (.var 68) (.var 69), .int .i64 (.var 121), .int .i64 (.var 122)] [.sl 35 (.var 70) (.var 71), .int .i64 (.var 124), .int .i64 (.var 125)] hokT.and (p := P (v + 2)) (hR.le _) (p' := P (v + 3)) (hR.st _) (x := ν (v + 2)) (hR.va _) rfl rfl (by intros; kernel_rfl) (by intros; kernel_rfl) rfl (by intros; kernel_rfl) (by intros; kernel_rfl) rfl (by kernel_rfl) ?_
      try refine par_i ?_ ?_
    all_goals
      refine node_nu 2 [.sl 35 (.var 70) (.var 71), .int .i64 (.var 124), .int .i64 (.var 125)] [.sl 36 (.var 72) (.var 73), .int .i64 (.var 127), .int .i64 (.var 128)] hokT.and (p := P (v + 3)) (hR.le _) (p' := P (v + 4)) (hR.st _) (x := ν (v + 3)) (hR.va _) rfl rfl (by intros; kernel_rfl) (by intros; kernel_rfl) rfl (by intros; kernel_rfl) (by intros; kernel_rfl) rfl (by kernel_rfl) ?_
      try refine par_i ?_ ?_
    all_goals
      refine node_kpush rfl rfl ka kc l x 4 (by intros; kernel_rfl) (by intros; kernel_rfl) rfl (by rw [ex]; intros; kernel_rfl) hapj (by omega) (by intros; kernel_rfl) (by kernel_rfl) (by kernel_rfl) (by intros; kernel_rfl) ?_
      intro ka' kc' hap'
      have hl2 : (l ++ [x]).length = l.length + 1 := by rw [List.length_append]; rfl
      refine again_V ⟨[((i + 1 : Nat) : Int), ((P (v + 4)).1 : Int), (P (v + 4)).2, ν u, ν (u + 1)], [], [], [bs.length, rc, (l ++ [x]).length, kc'], [ra, ka']⟩ rfl (fun ids => Eq.trans (b := ⟨[IntKind.i64.wrap ((i : Int) + 1), ((P (v + 4)).1 : Int), (P (v + 4)).2, ν u, ν (u + 1)], [], [], [bs.length, rc, l.length + 1, kc'], [ra, ka']⟩) (by kernel_rfl) (by rw [hwk, hl2])) _ (fun w2 ids hf => ⟨hf.x, hf.sep⟩) ⟨⟨i + 1, ka', kc', hlti, by rw [← hnx]; exact hap', by rw [← hnx, ← hv4], by rw [← hnx]⟩, ?_⟩
      show kn - (((i + 1 : Nat) : Int)).toNat < kn - ((i : Int)).toNat
      omega
  refine br_F (decide ((i : Int) < (kn : Int))) (by kernel_rfl) (decide_eq_false (by omega)) ?_
  obtain rfl : kn = i := by omega
  obtain ⟨e', ee'⟩ : ∃ e' : SE, e' = ⟨⟨ν u, ν (u + 1), l⟩, ka, kc⟩ := ⟨_, rfl⟩
  have hkR : kRow e' = krow ka kc l := by rw [ee']; rfl
  have hTs : ∀ z, (R1.F z ∨ (ksR ds).F z ∨ (srow sa sc ds).F z) → T.F z := fun z hz => by
    rw [eT]
    rcases hz with hz | hz | hz
    · exact .inl (.inl hz)
    · exact .inl (.inr hz)
    · exact .inr hz
  have hsn : ∀ z, (ksR (ds ++ [e'])).F z → (ksR ds).F z ∨ (krow ka kc l).F z := fun z hz => by
    rw [ksR_snoc, hkR] at hz; exact hz
  refine holds_eq (show _ = (R1.and (ksR (ds ++ [e']))).and (srow sa sc ds) from by rw [eT, HX.and_right_comm, ksR_snoc, hkR, HX.and_assoc R1]) ?_
  have haps2 : Apart w (R1.and (ksR (ds ++ [e']))) (srow sa sc ds) := fun z hz => ⟨(haps z hz).1, fun y => by
    rcases y with y | y
    · exact (haps z hz).2 y
    · rcases hsn z y with y | y
      · obtain ⟨x, hx, hy⟩ := y
        exact hdj.tab x hx z hy hz
      · exact (hapj z y).2 (hTs z (.inr (.inr hz)))⟩
  refine node_spush rfl rfl sa sc ds e' 4 (by intros; kernel_rfl) (by intros; kernel_rfl) rfl (by rw [ee']; intros; kernel_rfl) haps2 (by omega) (by intros; kernel_rfl) (by kernel_rfl) (by kernel_rfl) (by intros; kernel_rfl) ?_
  intro sa' sc' hap'
  have hwj : IntKind.i64.wrap ((j : Int) + 1) = ((j + 1 : Nat) : Int) := by rw [wrap_i64 (by omega)]; omega
  have hl2 : (ds ++ [e']).length = ds.length + 1 := by rw [List.length_append]; rfl
  have hse : sesP ν q (j + 1) = v := by
    show sesE ν (sesP ν q j) = _
    rw [← eu, ev, ekn]; rfl
  refine again_V ⟨[((j + 1 : Nat) : Int), ν 0, ν 1, r 0, r 1, r 2, r 3, r 4, r 5, r 6, r 7, r 8, r 9, r 10, r 11, r 12, r 13, r 14, r 15, ((P v).1 : Int), (P v).2], [], [], [M.length, mc, (ds ++ [e']).length, sc', bs.length, rc], [ma, sa', ra]⟩ rfl (fun ids => Eq.trans (b := ⟨[IntKind.i64.wrap ((j : Int) + 1), ν 0, ν 1, r 0, r 1, r 2, r 3, r 4, r 5, r 6, r 7, r 8, r 9, r 10, r 11, r 12, r 13, r 14, r 15, ((P v).1 : Int), (P v).2], [], [], [M.length, mc, ds.length + 1, sc', bs.length, rc], [ma, sa', ra]⟩) (by kernel_rfl) (by rw [hwj, hl2])) _ (fun w2 ids hf => ⟨hf.x, hf.sep⟩) ⟨⟨j + 1, sa', sc', ds ++ [e'], hlt, ?_, hdj.snoc (fun z hz hF => ?_) (fun z h1 h2 hF => (hap' z ⟨h1, h2⟩).2 (.inr hF)), ?_, fun z hz => ⟨(hap' z hz).1, fun y => (hap' z hz).2 (.inl y)⟩, by rw [hse]; rfl, rfl⟩, ?_⟩
  · rw [List.map_append, hdm]
    unfold sesL
    rw [range_snoc, ← eu]
    congr 1
    rw [ee', el, ekn]; rfl
  · rw [hkR] at hz
    exact (hapj z hz).2 (hTs z (.inr (.inl hF)))
  · intro z hz
    rcases hsn z hz with y | y
    · exact hapk z y
    · exact ⟨(hapj z y).1, fun h => (hapj z y).2 (hTs z (.inl h))⟩
  · show sn - (((j + 1 : Nat) : Int)).toNat < sn - ((j : Int)).toNat
    omega
end Go.Proofs.Ytfjiolgdcphjhaa

namespace Go.Proofs.Ytfjiolgdcphjhaa
open Go.ChangeShapes Go.WideShapes Go.ChangeAt Go.RowKit Go.Syn Go.Eng
set_option linter.unusedVariables false
set_option linter.unusedSimpArgs false
set_option maxRecDepth 100000
def KF (t : List SsD) : Prop := ∀ s ∈ t, ∀ k ∈ s.kept, I64 k.re ∧ I64 k.im
theorem KF.nil : KF [] := fun s h => by cases h
theorem KF.ask {t : List SsD} (h : KF t) (sess seq ack : Int) : KF (askV t sess seq ack).t := by
  have hT : KF (tabS t sess) := fun s hs k hk => by
    unfold tabS at hs
    split at hs
    · exact h s hs k hk
    · rcases insAt_mem.1 hs with q | q
      · exact h s q k hk
      · rw [q] at hk; cases hk
  rcases ask_cases t sess seq ack with ⟨_, _, e⟩ | ⟨_, s, hs, _, _, _, e⟩
  · rw [e]; exact h
  · rw [e, askS_t]
    intro x hx k hk
    rcases List.mem_or_eq_of_mem_set hx with q | q
    · exact hT x q k hk
    · rw [q] at hk
      exact hT s (List.mem_of_getElem? hs) k (List.mem_filter.1 hk).1
theorem KF.keep {t : List SsD} (h : KF t) (sess seq k re im : Int) (h1 : I64 re) (h2 : I64 im) : KF (keepV t sess seq k re im) := by
  unfold keepV
  split
  · exact h
  · cases hs : t[posI (nosT t) sess]? with
    | none => exact h
    | some s =>
      dsimp only
      split
      · exact h
      · intro x hx kk hk
        rcases List.mem_or_eq_of_mem_set hx with q | q
        · exact h x q kk hk
        · rw [q] at hk
          rcases insAt_mem.1 hk with z | z
          · exact h s (List.mem_of_getElem? hs) kk z
          · rw [z]; exact ⟨h1, h2⟩
theorem fit64 {a b : Int} (h : fitB a b = true) : I64 a ∧ I64 b := by
  unfold fitB at h
  have := of_decide_eq_true h
  unfold I64; omega
theorem apply64 {xs : List Int} (hr : xs.length = 16) (o : OpD) : I64 (applyM xs o).2.2.1 ∧ I64 (applyM xs o).2.2.2 := by
  have z : I64 0 ∧ I64 0 := by unfold I64; omega
  unfold applyM
  split
  · rename_i hc
    simp only [Bool.and_eq_true] at hc
    obtain ⟨_, r12, _⟩ := (opB_iff _).1 hc.2
    split
    · exact fit64 (valid_reg hc.1 _ (by omega))
    · split
      · rename_i hf
        exact fit64 hf
      · exact z
  · exact z
theorem KF.run {I : Im} (h : KF I.tb) (hr : I.regs.length = 16) (c : CmD) : KF (runV I c).i.tb := by
  unfold runV
  split
  · exact h.ask _ _ _
  · obtain ⟨h1, h2⟩ := apply64 hr c.op
    exact (h.ask _ _ _).keep _ _ _ _ _ h1 h2
theorem KF.all {cs : List CmD} : ∀ {p : Im × List AnD}, KF p.1.tb → p.1.regs.length = 16 → KF (cs.foldl stepV p).1.tb := by
  induction cs with
  | nil => intro p h _; exact h
  | cons c r ih =>
    intro p h hr
    exact ih (p := stepV p c) (h.run hr c) (runV_len c hr)
theorem KF.exec {I : Im} (h : KF I.tb) (hr : I.regs.length = 16) (slot : Int) (v : Vl) : KF (execV I slot v).i.tb := by
  unfold execV
  split
  · exact KF.nil
  · split
    · exact KF.nil
    · split
      · exact KF.nil
      · refine KF.all ?_ ?_
        · show KF (goI I slot v).tb
          unfold goI; split <;> exact h
        · show (goI I slot v).regs.length = 16
          unfold goI; split <;> exact hr
theorem rgs_64 {l : List Int} (hl : l.length = 16) (h : validL l = true) : ∀ x ∈ rgs l, I64 x := by
  intro x hx
  unfold rgs at hx
  simp only [List.mem_cons, List.not_mem_nil, or_false] at hx
  have v : ∀ i, i < 8 → I64 (rg l (2 * i)) ∧ I64 (rg l (2 * i + 1)) := fun i hi => fit64 (valid_reg h i (by omega))
  have v0 := v 0 (by decide)
  have v1 := v 1 (by decide)
  have v2 := v 2 (by decide)
  have v3 := v 3 (by decide)
  have v4 := v 4 (by decide)
  have v5 := v 5 (by decide)
  have v6 := v 6 (by decide)
  have v7 := v 7 (by decide)
  rcases hx with rfl | rfl | rfl | rfl | rfl | rfl | rfl | rfl | rfl | rfl | rfl | rfl | rfl | rfl | rfl | rfl
  · exact v0.1
  · exact v0.2
  · exact v1.1
  · exact v1.2
  · exact v2.1
  · exact v2.2
  · exact v3.1
  · exact v3.2
  · exact v4.1
  · exact v4.2
  · exact v5.1
  · exact v5.2
  · exact v6.1
  · exact v6.2
  · exact v7.1
  · exact v7.2
theorem NFit.of {I : Im} (h : imOk I) (hk : KF I.tb) : NFit I := by
  intro x hx
  obtain ⟨hv, hr, hm⟩ := h
  have hf := hv.fit
  unfold numsI at hx
  simp only [List.mem_append, List.mem_cons, List.not_mem_nil, or_false, List.mem_flatMap] at hx
  have e1 := hv.ep0
  have e2 := hv.ep1
  have s1 := hv.sl0
  have s2 := hv.sl1
  rcases hx with (((( rfl | rfl | rfl) | hx) | hx) | rfl) | ⟨s, hs, hx⟩
  · unfold I64; omega
  · unfold I64; omega
  · unfold I64; omega
  · exact hm x hx
  · exact rgs_64 hr hv.regs x hx
  · unfold I64; omega
  · have hse := hv.tb.each s hs
    have a1 := hse.no1
    have a2 := hse.no2
    have a3 := hse.ack1
    have a4 := hse.ack2
    have a5 := hse.len
    unfold sesN at hx
    simp only [List.mem_append, List.mem_cons, List.not_mem_nil, or_false, List.mem_flatMap] at hx
    rcases hx with (rfl | rfl | rfl) | ⟨k, hk1, hx⟩
    · unfold I64; omega
    · unfold I64; omega
    · unfold I64; omega
    · have b1 := hse.each k hk1
      obtain ⟨b2, b3⟩ := hk s hs k hk1
      unfold kpN at hx
      simp only [List.mem_cons, List.not_mem_nil, or_false] at hx
      rcases hx with rfl | rfl | rfl | rfl
      · unfold I64; omega
      · unfold I64; omega
      · exact b2
      · exact b3
theorem nuL_app (ν : Nat → Int) (i a b : Nat) : nuL ν i (a + b) = nuL ν i a ++ nuL ν (i + a) b := by
  unfold nuL
  rw [List.range_add, List.map_append, List.map_map]
  congr 1
  refine List.map_congr_left fun j _ => ?_
  show ν (i + (a + j)) = ν (i + a + j)
  rw [Nat.add_assoc]
theorem nuL_one (ν : Nat → Int) (i : Nat) : nuL ν i 1 = [ν i] := rfl
theorem r16_nuL (ν : Nat → Int) (q : Nat) : r16 ν q = nuL ν q 16 := rfl
theorem nuL_head {ν : Nat → Int} {i n : Nat} {x : Int} {l : List Int} (h : nuL ν i (n + 1) = x :: l) : ν i = x ∧ nuL ν (i + 1) n = l := by
  rw [Nat.add_comm, nuL_app] at h
  have h2 : ν i :: nuL ν (i + 1) n = x :: l := h
  exact ⟨List.head_eq_of_cons_eq h2, List.tail_eq_of_cons_eq h2⟩
theorem nuL_cut {ν : Nat → Int} {i n : Nat} {l m : List Int} (h : nuL ν i n = l ++ m) : nuL ν i l.length = l ∧ nuL ν (i + l.length) m.length = m ∧ n = l.length + m.length := by
  have hn : n = l.length + m.length := by
    have := congrArg List.length h
    rw [nuL_len, List.length_append] at this; exact this
  rw [hn, nuL_app] at h
  obtain ⟨h1, h2⟩ := List.append_inj h (nuL_len _ _ _)
  exact ⟨h1, h2, hn⟩
theorem kp_back (ν : Nat → Int) : ∀ (l : List KpD) (q : Nat), nuL ν q (l.flatMap kpN).length = l.flatMap kpN → kpL ν q l.length = l
  | [], _, _ => rfl
  | x :: l, q, h => by
    rw [List.flatMap_cons] at h
    obtain ⟨h1, h2, _⟩ := nuL_cut h
    have h3 := kp_back ν l (q + 4) h2
    have e : nuL ν q 4 = [x.seq, x.kind, x.re, x.im] := h1
    simp only [nuL, List.range, List.range.loop, List.map_cons, List.map_nil, List.cons.injEq, and_true] at e
    have hx : kpO ν q = x := by
      obtain ⟨a, b, c, d⟩ := x
      obtain ⟨e1, e2, e3, e4⟩ := e
      unfold kpO
      dsimp only at e1 e2 e3 e4
      rw [← e1, ← e2, ← e3, ← e4]; rfl
    rw [List.length_cons, Nat.add_comm]
    unfold kpL at h3 ⊢
    rw [List.range_add, List.map_append, List.map_map]
    have h4 : (List.range l.length).map ((fun j => kpO ν (q + 4 * j)) ∘ fun x => 1 + x) = l := by
      refine Eq.trans (List.map_congr_left fun j _ => ?_) h3
      show kpO ν (q + 4 * (1 + j)) = kpO ν (q + 4 + 4 * j)
      congr 1; omega
    rw [h4]
    show [kpO ν (q + 4 * 0)] ++ l = x :: l
    rw [Nat.mul_zero, Nat.add_zero, hx]; rfl
theorem sesP_shift (ν : Nat → Int) (q : Nat) : ∀ k, sesP ν q (k + 1) = sesP ν (sesE ν q) k
  | 0 => rfl
  | k + 1 => by
    show sesE ν (sesP ν q (k + 1)) = sesE ν (sesP ν (sesE ν q) k)
    rw [sesP_shift ν q k]
theorem cnt_of {most : Int} {n : Nat} (h : (n : Int) ≤ most) : cnt most (n : Int) = n := by
  unfold cnt upN
  rw [if_neg (by omega)]; omega
theorem ses_back (ν : Nat → Int) : ∀ (t : List SsD) (q : Nat), (∀ s ∈ t, s.kept.length ≤ 8) → nuL ν q (t.flatMap sesN).length = t.flatMap sesN → sesL ν q t.length = t ∧ sesP ν q t.length = q + (t.flatMap sesN).length
  | [], _, _, _ => ⟨rfl, rfl⟩
  | s :: t, q, hk, h => by
    rw [List.flatMap_cons] at h
    obtain ⟨h1, h2, _⟩ := nuL_cut h
    obtain ⟨no, ack, kept⟩ := s
    have hk8 := hk _ List.mem_cons_self
    dsimp only at hk8
    have hl : (sesN ⟨no, ack, kept⟩).length = 3 + 4 * kept.length := sesN_len _
    have h1' : nuL ν q (sesN ⟨no, ack, kept⟩).length = [no, ack, (kept.length : Int)] ++ kept.flatMap kpN := h1
    obtain ⟨g1, g2, _⟩ := nuL_cut h1'
    have e : nuL ν q 3 = [no, ack, (kept.length : Int)] := g1
    simp only [nuL, List.range, List.range.loop, List.map_cons, List.map_nil, List.cons.injEq, and_true] at e
    obtain ⟨e1, e2, e3⟩ := e
    have hc : cnt 8 (ν (q + 2)) = kept.length := by rw [e3]; exact cnt_of (by omega)
    have hE : sesE ν q = q + (sesN ⟨no, ack, kept⟩).length := by unfold sesE; rw [hc, hl]; omega
    have hO : sesO ν q = ⟨no, ack, kept⟩ := by
      unfold sesO
      have g3 : kpL ν (q + 3) kept.length = kept := kp_back ν kept (q + 3) g2
      rw [hc, g3]
      rw [show ν q = no from e1, show ν (q + 1) = ack from e2]
    rw [← hE] at h2
    obtain ⟨h3, h4⟩ := ses_back ν t (sesE ν q) (fun s hs => hk s (List.mem_cons_of_mem _ hs)) h2
    refine ⟨?_, ?_⟩
    · rw [List.length_cons, Nat.add_comm]
      unfold sesL at h3 ⊢
      rw [List.range_add, List.map_append, List.map_map]
      have h5 : (List.range t.length).map ((fun j => sesO ν (sesP ν q j)) ∘ fun x => 1 + x) = t := by
        refine Eq.trans (List.map_congr_left fun j _ => ?_) h3
        show sesO ν (sesP ν q (1 + j)) = _
        rw [Nat.add_comm 1 j, sesP_shift]
      rw [h5]
      show [sesO ν (sesP ν q 0)] ++ t = _
      rw [show sesP ν q 0 = q from rfl, hO]; rfl
    · rw [List.length_cons, sesP_shift, h4, hE, List.flatMap_cons, List.length_append]; omega
theorem imD_back {ν : Nat → Int} {I : Im} (h : VI I) (hr : I.regs.length = 16) (hν : nuL ν 0 (numsI I).length = numsI I) : imD ν = I ∧ enD ν = (numsI I).length := by
  obtain ⟨ep, mem, sl, regs, tb⟩ := I
  have hf := h.fit
  dsimp only at hf hr
  have hν' : nuL ν 0 (numsI ⟨ep, mem, sl, regs, tb⟩).length = [ep, sl, (mem.length : Int)] ++ (mem ++ (rgs regs ++ ([(tb.length : Int)] ++ tb.flatMap sesN))) := by
    rw [hν]; unfold numsI; simp only [List.append_assoc]
  obtain ⟨g1, g2, gl⟩ := nuL_cut hν'
  obtain ⟨m1, m2, _⟩ := nuL_cut g2
  obtain ⟨r1, r2, _⟩ := nuL_cut m2
  obtain ⟨t1, t2, _⟩ := nuL_cut r2
  have e : nuL ν 0 3 = [ep, sl, (mem.length : Int)] := g1
  simp only [nuL, List.range, List.range.loop, List.map_cons, List.map_nil, List.cons.injEq, and_true] at e
  obtain ⟨e1, e2, e3⟩ := e
  have hc : cnt 7 (ν 2) = mem.length := by rw [show ν 2 = (mem.length : Int) from e3]; exact cnt_of (by omega)
  have hrl : (rgs regs).length = 16 := rfl
  have p3 : 0 + [ep, sl, (mem.length : Int)].length = 3 := rfl
  rw [p3] at m1 m2 r1 r2 t1 t2
  rw [hrl] at r1 r2 t1 t2
  have t1' : ν (3 + mem.length + 16) = (tb.length : Int) := (nuL_head (n := 0) (l := []) t1).1
  have hc2 : cnt 16 (ν (3 + mem.length + 16)) = tb.length := by rw [t1']; exact cnt_of (by omega)
  have t2' : nuL ν (3 + mem.length + 17) (tb.flatMap sesN).length = tb.flatMap sesN := t2
  obtain ⟨s1, s2⟩ := ses_back ν tb _ (fun s hs => (h.tb.each s hs).len) t2'
  unfold imD enD
  rw [hc, hc2, s1, s2, m1, r16_nuL, r1, rgs_of hr, show ν 0 = ep from e1, show ν 1 = sl from e2]
  refine ⟨rfl, ?_⟩
  unfold numsI
  dsimp only
  simp only [List.length_append, hrl, List.length_cons, List.length_nil]
theorem walk_back {bs : List Int} (hb : Byt bs) : ∀ (l pre : List Int) (j : Nat), (∀ x ∈ l, I64 x) → Here bs (plD bs j) (intsL l) → nuL (nuD bs) j l.length = l ∧ Here bs (plD bs (j + l.length)) []
  | [], _, _, _, h => ⟨rfl, h⟩
  | x :: l, pre, j, hl, h => by
    have h' : Here bs (plD bs j) (numB (foldN x) ++ intsL l) := h
    obtain ⟨h1, h2⟩ := here_int (hl x List.mem_cons_self) h'
    obtain ⟨h3, h4⟩ := walk_back hb l pre (j + 1) (fun y hy => hl y (List.mem_cons_of_mem _ hy)) h1
    refine ⟨?_, ?_⟩
    · rw [List.length_cons, Nat.add_comm, nuL_app, h3, nuL_one, show nuD bs j = x from h2]; rfl
    · rw [List.length_cons, show j + (l.length + 1) = j + 1 + l.length by omega]; exact h4
theorem numB_byt {u : Nat} (h : u < 2 ^ 64) : Byt (numB u) := fun b hb => by
  have := nlen_8 h
  rcases List.mem_cons.1 hb with rfl | hb
  · omega
  · exact digs_byt _ _ b hb
theorem intsL_byt {l : List Int} (h : ∀ x ∈ l, I64 x) : Byt (intsL l) := by
  intro b hb
  obtain ⟨x, hx, hb⟩ := List.mem_flatMap.1 hb
  exact numB_byt (foldN_lt (h x hx)) b hb
theorem dec_back {I : Im} (h : VI I) (hr : I.regs.length = 16) (hn : NFit I) : decX (intsL (numsI I)) = 0 ∧ imD (nuD (intsL (numsI I))) = I := by
  obtain ⟨bs, ebs⟩ : ∃ bs, bs = intsL (numsI I) := ⟨_, rfl⟩
  have hb : Byt bs := by rw [ebs]; exact intsL_byt hn
  have hl : bs.length ≤ 9 * (numsI I).length := by rw [ebs]; exact intsL_len hn
  have hl2 := nums_len h
  rw [← ebs]
  obtain ⟨h1, h2⟩ := walk_back hb (numsI I) [] 0 hn ⟨rfl, Nat.zero_le _, ebs⟩
  obtain ⟨h3, h4⟩ := imD_back h hr h1
  refine ⟨?_, h3⟩
  unfold decX
  rw [if_neg (by omega), h3, h4, if_neg, (validI_iff I).2 h]
  · rfl
  · rw [Nat.zero_add] at h2
    unfold doneB
    have h5 := h2.is
    have h6 := h2.ok
    have h7 : bs.length ≤ (plD bs (numsI I).length).1 := by
      rcases Nat.lt_or_ge (plD bs (numsI I).length).1 bs.length with z | z
      · have := congrArg List.length h5
        rw [List.length_drop] at this
        simp at this; omega
      · exact z
    rw [h6, if_neg (by omega)]
    simp
end Go.Proofs.Ytfjiolgdcphjhaa

namespace Go.Proofs.Ytfjiolgdcphjhaa
open Go.ChangeShapes Go.WideShapes Go.ChangeAt Go.RowKit Go.Syn Go.Eng
set_option linter.unusedVariables false
set_option linter.unusedSimpArgs false
set_option maxRecDepth 100000
def fstM (ms : List Int) : Im := ⟨0, ms, 0, im0.regs, []⟩
theorem fstM_valid (ms : List Int) : validI (fstM ms) = setOkB ms := by
  have h0 := (validI_iff hi0).1 (by kernel_rfl)
  rcases Bool.eq_false_or_eq_true (setOkB ms) with h | h
  · rw [h]; exact (validI_iff _).2 ⟨show (0 : Int) ≤ 0 by decide, show (0 : Int) ≤ 1099511627776 by decide, show (0 : Int) ≤ 0 by decide, show (0 : Int) ≤ 1099511627776 by decide, h, show validL im0.regs = true by kernel_rfl, h0.tb⟩
  · rw [h]
    rcases Bool.eq_false_or_eq_true (validI (fstM ms)) with hv | hv
    · have := ((validI_iff _).1 hv).mem
      rw [show (fstM ms).mem = ms from rfl, h] at this
      exact absurd this (by decide)
    · exact hv
def BkI20 (n : Nat) (vs : Vals) (hx : HX) : Prop := ∃ (k : Nat) (J : Im) (a1 : Option Addr) (c1 : Nat) (a2 : Option Addr) (c2 : Nat) (es : List SE) (b1 : Option Addr) (d1 : Nat) (b2 : Option Addr) (d2 : Nat) (fs : List SE), k ≤ n ∧ k ≤ 60 ∧ imOk J ∧ KF J.tb ∧ J.sl ≤ k ∧ J.ep ≤ k ∧ es.map SE.s = J.tb ∧ fs.map SE.s = J.tb ∧
  vs = ⟨(k : Int) :: imI J ++ imI J, [], [], [J.mem.length, c1, J.tb.length, c2, J.mem.length, d1, J.tb.length, d2], [a1, a2, b1, b2]⟩ ∧ hx = (imR J a1 a2 es).and (imR J b1 b2 fs)
def BkJ20 (k : Nat) (vs : Vals) (hx : HX) : Prop := ∃ (J : Im) (a1 : Option Addr) (c1 : Nat) (a2 : Option Addr) (c2 : Nat) (es : List SE) (b1 : Option Addr) (d1 : Nat) (b2 : Option Addr) (d2 : Nat) (fs : List SE), imOk J ∧ KF J.tb ∧ J.sl ≤ k ∧ J.ep ≤ k ∧ es.map SE.s = J.tb ∧ fs.map SE.s = J.tb ∧
  vs = ⟨imI J ++ imI J, [], [], [J.mem.length, c1, J.tb.length, c2, J.mem.length, d1, J.tb.length, d2], [a1, a2, b1, b2]⟩ ∧ hx = (imR J a1 a2 es).and (imR J b1 b2 fs)
def BkK20 (J : Im) (H : HX) (vs : Vals) (hx : HX) : Prop := ∃ (b1 : Option Addr) (d1 : Nat) (b2 : Option Addr) (d2 : Nat) (fs : List SE), fs.map SE.s = J.tb ∧
  vs = ⟨imI J, [], [], [J.mem.length, d1, J.tb.length, d2], [b1, b2]⟩ ∧ hx = H.and (imR J b1 b2 fs)
set_option maxHeartbeats 8000000 in
theorem back20_walk (a0 : Option Addr) (cap0 : Nat) (ms : List Int) (a : Option Addr) (cap : Nat) (xs : List Pv) (cut : Int) (w : World) (H0 : Ints w a0 ms) (hml : ms.length * 8 ≤ 140737488351232) (H : Cells w a (qcs xs)) (hxs : ∀ p ∈ xs, VlAt w p.v p.a1 p.a2 ∧ ∀ c ∈ p.v.cs, CmFit c) :
    Calls Try.prog 8 #[.slice a0 ms.length cap0, .slice a xs.length cap, .int .i64 cut] w (PureAt w (.bool true)) := by
  refine calls_at (tab_ok _) Try.func8 rfl tXBack (ρ := ⟨[cut], [], [], [ms.length, cap0, xs.length, cap], [a0, a]⟩) (ids := []) (hx := HX.nil) (by kernel_rfl) (Facts.initP rfl oneNil) ?_
  have keepV : ∀ {m : Mem} {ρ : Env} {ids : List Nat} {hx : HX} {w2 : World} {R : Ending → World → Prop} {p : Pv}, p ∈ xs → Facts ⟨Try.prog, w, fun _ => False, R⟩ m ρ ids hx w2 → VlAt w2 p.v p.a1 p.a2 := fun hp hf => (hxs _ hp).1.fit.at_ ((vlX _ _ _).loc _ _ (hxs _ hp).1.X fun k hk => hf.chg.block k (vlX_sep (hxs _ hp).1.X k hk) (fun q => q))
  have keep0 : ∀ {m : Mem} {ρ : Env} {ids : List Nat} {hx : HX} {w2 : World} {R : Ending → World → Prop}, Facts ⟨Try.prog, w, fun _ => False, R⟩ m ρ ids hx w2 → Cells w2 a0 (ms.map (Value.int .i64)) := fun hf => cl_stay H0.cells (fun k hk => hf.chg.block k hk (fun q => q))
  have h64 : ∀ x ∈ ms, I64 x := H0.fits
  refine node_P ⟨[], [true], [], [], []⟩ #[] (.bool true) (by intros; kernel_rfl) (by intros; kernel_rfl) (by kernel_rfl) (by kernel_rfl) (by kernel_rfl) oneNil (fun ids w2 hp hf => head20_any w2) ?_
  refine br_f (by kernel_rfl) ?_
  refine node_P ⟨[], [setOkB ms], [], [], []⟩ #[.slice a0 ms.length cap0] (.bool (setOkB ms)) (by intros; kernel_rfl) (by intros; kernel_rfl) (by kernel_rfl) (by kernel_rfl) (by kernel_rfl) oneNil (fun ids w2 hp hf => refRight_any a0 cap0 ms w2 (Ints.of_cells (by omega) h64 (keep0 hf))) ?_
  rcases Bool.eq_false_or_eq_true (setOkB ms) with hv | hv
  case' inr =>
    refine br_T (!(setOkB ms)) (by kernel_rfl) (by rw [hv]; rfl) ?_
  case' inl =>
    refine br_F (!(setOkB ms)) (by kernel_rfl) (by rw [hv]; rfl) ?_
  all_goals
    refine node_clones (sz := 1) (z := .int .i64 0) (bytes := 8) rfl Try.underlying22 info_int1 rfl (by decide) 0 rfl (fun _ => a0) ms.length cap0 (ms.map (Value.int .i64)) (by simp) (fun ids w2 hp hf => keep0 hf) (fun u hu => by obtain ⟨x, _, rfl⟩ := List.mem_map.1 hu; rfl) (by simp only [maxLen]; omega) (by omega) (by intros; kernel_rfl) (by intros; kernel_rfl) (by intros; kernel_rfl) (by kernel_rfl) (by kernel_rfl) (by intros; kernel_rfl) ?_
    intro a' c' ha'
    refine node_im (V := id) (I := fstM ms) (fun ids => #[.slice a' ms.length c']) (fun x1 y1 x2 y2 => ⟨imI (fstM ms), [], [], [ms.length, y1, 0, y2], [x1, x2]⟩) (by intros; kernel_rfl) (fun ids w2 hp hf => xfirst_any a' c' ms w2 (Ints.of_cells (by omega) h64 (rw_cells hf.x.2)) (by omega)) (by intros; kernel_rfl) (by kernel_rfl) (by kernel_rfl) (by intros; kernel_rfl) (fun _ _ _ _ => oneNil) ?_
    intro x1 y1 x2 y2 es0 hm0 hdj0 hsm0 had0 hn0
  case inr =>
    have hB : ImBig (fstM ms) := ⟨h64, hml, rfl, show 0 * 40 ≤ 140737488351232 by decide, fun s h => (by cases h)⟩
    have hl0 : es0.length = 0 := by have := es_len hm0; rw [this]; rfl
    refine node_P ⟨[], [validI (fstM ms)], [], [], []⟩ #[imV (fstM ms) x1 y1 x2 y2] (.bool (validI (fstM ms))) (by intros; kernel_rfl) (by intros; kernel_rfl) (by kernel_rfl) (by kernel_rfl) (by kernel_rfl) oneNil (fun ids w2 hp hf => xvalid_any (fstM ms) x1 y1 x2 y2 es0 w2 (hB.at_ hm0 (imR_of hf.x.2).1) (by omega)) ?_
    exact pure_done (fun ids => Eq.trans (b := .bool (!(validI (fstM ms)))) (by kernel_rfl) (by rw [fstM_valid, hv]; rfl))
  have hJ0 : imOk (fstM ms) := ⟨(validI_iff _).1 (by rw [fstM_valid]; exact hv), rfl, h64⟩
  refine loop_i (BkI20 xs.length) (fun vs => xs.length - (vs.i.headD 0).toNat) (fun ids w2 hp hf => ⟨(imR (fstM ms) x1 x2 es0).and (imR (fstM ms) x1 x2 es0), ⟨⟨(imR_of hf.x.2).1, (imR_of hf.x.2).1⟩, fun j hj => hj.elim (fun z => hf.sep j (.inr ((imR_of hf.x.2).2 j z))) (fun z => hf.sep j (.inr ((imR_of hf.x.2).2 j z)))⟩, 0, fstM ms, x1, y1, x2, y2, es0, x1, y1, x2, y2, es0, Nat.zero_le _, by decide, hJ0, KF.nil, show (0 : Int) ≤ 0 by decide, show (0 : Int) ≤ 0 by decide, hm0, hm0, by kernel_rfl, rfl⟩) ?_
  rintro vs hx' hcnt ⟨k, I, e1, g1, e2, g2, es, f1, h1, f2, h2, fs, hkn, hk60, hJ, hKF, hsl, hep, hes, hfs, rfl, rfl⟩
  have hB := hJ.big
  have hesl : es.length = I.tb.length := es_len hes
  have hfsl : fs.length = I.tb.length := es_len hfs
  have btb := hB.tb
  have bmem := hB.len
  have s0 := hJ.1.sl0
  have e0 := hJ.1.ep0
  have hws : IntKind.i64.wrap (I.sl + 1) = I.sl + 1 := wrap_i64 (by omega)
  obtain ⟨HM, eHM⟩ : ∃ HM, HM = imR I e1 e2 es := ⟨_, rfl⟩
  obtain ⟨HO, eHO⟩ : ∃ HO, HO = imR I f1 f2 fs := ⟨_, rfl⟩
  have atM : ∀ {w2 : World}, HM.X w2 → ImAt w2 I e1 e2 es := fun h => by rw [eHM] at h; exact hB.at_ hes h
  have atO : ∀ {w2 : World}, HO.X w2 → ImAt w2 I f1 f2 fs := fun h => by rw [eHO] at h; exact hB.at_ hfs h
  rw [← eHM, ← eHO]
  have last : ∀ {L : Stack} {pre : List Nat} {ρ : Env}, ρ = ⟨[cut] ++ imI (fstM ms) ++ ((k : Int) :: imI I ++ imI I), [true, setOkB ms], [], [ms.length, cap0, xs.length, cap, ms.length, c', ms.length, y1, 0, y2, I.mem.length, g1, I.tb.length, g2, I.mem.length, h1, I.tb.length, h2], [a0, a, a', x1, x2, e1, e2, f1, f2]⟩ → (Tree.call 14 [.agg tXBackb6, .agg tXBackb7] tXBackm22 (.lf (.bool (.var 2))) tXBackm23 (.done (.lf (.bool (.var 2))) tXBackm23)).holds ⟨Try.prog, w, fun _ => False, PureAt w (.bool true)⟩ ρ pre (HM.and HO) L := by
    rintro L pre ρ rfl
    refine node_P ⟨[], [true], [], [], []⟩ #[imV I e1 g1 e2 g2, imV I f1 h1 f2 h2] (.bool true) (by intros; kernel_rfl) (by intros; kernel_rfl) (by kernel_rfl) (by kernel_rfl) (by kernel_rfl) oneNil (fun ids w2 hp hf => rsame20_any I e1 g1 e2 g2 es f1 h1 f2 h2 fs w2 (atM hf.x.1) (atO hf.x.2) (by omega) (by omega) (fun e he => by have := hB.kept' hes e he; omega)) ?_
    exact pure_done (fun ids => by kernel_rfl)
  by_cases hlt : k < xs.length
  case' neg => exact br_F (decide ((k : Int) < (xs.length : Int))) (by kernel_rfl) (decide_eq_false (by omega)) (last (by kernel_rfl))
  refine br_T (decide ((k : Int) < (xs.length : Int))) (by kernel_rfl) (decide_eq_true (by omega)) ?_
  by_cases hlt6 : k < 60
  case' neg => exact br_F (decide ((k : Int) < 60)) (by kernel_rfl) (decide_eq_false (by omega)) (last (by kernel_rfl))
  refine br_T (decide ((k : Int) < 60)) (by kernel_rfl) (decide_eq_true (by omega)) ?_
  obtain ⟨p, hp⟩ : ∃ p, xs[k]? = some p := ⟨_, List.getElem?_eq_getElem hlt⟩
  have hpm := List.mem_of_getElem? hp
  have hnd : a.isSome = true ∧ (0 : Int) ≤ k ∧ (k : Int) < xs.length := ⟨(pv_part H k 0 p.cells hp (fun j u hj => by rw [Nat.zero_add]; exact hj) (by simp [Pv.cells])).1, by omega, by omega⟩
  have hwk : IntKind.i64.wrap ((k : Int) + 1) = ((k + 1 : Nat) : Int) := by rw [wrap_i64 (by omega)]; omega
  obtain ⟨R, eR⟩ : ∃ R, R = execV I (I.sl + 1) p.v := ⟨_, rfl⟩
  obtain ⟨bR, bRa, bRo⟩ := exec_big hB (I.sl + 1) p.v (hxs p hpm).1.n.fits
  have kR := hKF.exec hJ.2.1 (I.sl + 1) p.v
  rw [← eR] at bR bRa bRo kR
  have okR : R.e = 0 → ExecOk I (I.sl + 1) p.v R := fun hz => by
    have hvz : valE p.v = 0 := Classical.byContradiction fun q => by
      rw [eR, exec_bad hJ.1 rfl (by omega) (fun _ => by omega) q] at hz
      exact q hz
    rw [eR]; exact exec_ok hJ rfl (by omega) (fun _ => by omega) hvz (hxs p hpm).1.n.fits
  refine holds_env (ρ' := ⟨[cut] ++ imI (fstM ms) ++ ((k : Int) :: imI I ++ imI I), [true, setOkB ms], [], [ms.length, cap0, xs.length, cap, ms.length, c', ms.length, y1, 0, y2, I.mem.length, g1, I.tb.length, g2, I.mem.length, h1, I.tb.length, h2], [a0, a, a', x1, x2, e1, e2, f1, f2]⟩) (by kernel_rfl) ?_
  refine need_k (a.isSome = true ∧ (0 : Int) ≤ k ∧ (k : Int) < xs.length) (by kernel_rfl) hnd ?_
  refine par_i ?_ ?_
  all_goals
    refine node_ld0 (k := ⟨56, 2, 0, 18, 9⟩) ⟨[p.v.k], [], [], [p.v.cs.length, p.c1, p.v.ns.length, p.c2], [p.a1, p.a2]⟩ (.pointer (some (((a.getD ⟨0, 0, none⟩).add (k * 3)).add 0))) p.cells (by intros; kernel_rfl) (by intros; kernel_rfl) (pv_all H k hp) ⟨by kernel_rfl, oneNil⟩ (by kernel_rfl) oneNil ?_
    try refine par_i ?_ ?_
  all_goals
    refine node_vl (V := id) (v := p.v) (fun _ => #[vlV p.v p.a1 p.c1 p.a2 p.c2]) (fun b1 d1 b2 d2 => ⟨[p.v.k], [], [], [p.v.cs.length, d1, p.v.ns.length, d2], [b1, b2]⟩) (by intros; kernel_rfl) (fun ids w2 hp hf => cpvl_any p.v p.a1 p.c1 p.a2 p.c2 w2 (keepV hpm hf)) (by intros; kernel_rfl) (by kernel_rfl) (by kernel_rfl) (by intros; kernel_rfl) (fun _ _ _ _ => oneNil) ?_
    intro b1 d1 b2 d2 hb1
    try refine par_i ?_ ?_
  all_goals
    refine node_ex (R := R) (fun _ => #[imV I e1 g1 e2 g2, .int .i64 (I.sl + 1), vlV p.v b1 d1 b2 d2]) (fun ids => Eq.trans (b := #[imV I e1 g1 e2 g2, .int .i64 (IntKind.i64.wrap (I.sl + 1)), vlV p.v b1 d1 b2 d2]) (by kernel_rfl) (by rw [hws])) (fun ids w2 hp hf => eR ▸ xexec_any I e1 g1 e2 g2 es (I.sl + 1) p.v b1 d1 b2 d2 w2 (atM hf.x.1.1) (by omega) (by omega) ((hxs p hpm).1.fit.at_ hf.x.2)) (by intros; kernel_rfl) (by kernel_rfl) (by kernel_rfl) (by intros; kernel_rfl) ?_
    intro m1 n1 m2 n2 es2 oa oc hm2 hdj2 hsm2 hso2 hn2
    refine need_k (a.isSome = true ∧ (0 : Int) ≤ k ∧ (k : Int) < xs.length) (by kernel_rfl) hnd ?_
    refine par_i ?_ ?_
  all_goals
    refine node_ld0 (k := ⟨77, 2, 0, 32, 16⟩) ⟨[p.v.k], [], [], [p.v.cs.length, p.c1, p.v.ns.length, p.c2], [p.a1, p.a2]⟩ (.pointer (some (((a.getD ⟨0, 0, none⟩).add (k * 3)).add 0))) p.cells (by intros; kernel_rfl) (by intros; kernel_rfl) (pv_all H k hp) ⟨by kernel_rfl, oneNil⟩ (by kernel_rfl) oneNil ?_
    try refine par_i ?_ ?_
  all_goals
    refine node_vl (V := id) (v := p.v) (fun _ => #[vlV p.v p.a1 p.c1 p.a2 p.c2]) (fun b1 d1 b2 d2 => ⟨[p.v.k], [], [], [p.v.cs.length, d1, p.v.ns.length, d2], [b1, b2]⟩) (by intros; kernel_rfl) (fun ids w2 hp hf => cpvl_any p.v p.a1 p.c1 p.a2 p.c2 w2 (keepV hpm hf)) (by intros; kernel_rfl) (by kernel_rfl) (by kernel_rfl) (by intros; kernel_rfl) (fun _ _ _ _ => oneNil) ?_
    intro u1 t1 u2 t2 hb2
    try refine par_i ?_ ?_
  all_goals
    refine node_ex (R := R) (fun _ => #[imV I f1 h1 f2 h2, .int .i64 (I.sl + 1), vlV p.v u1 t1 u2 t2]) (fun ids => Eq.trans (b := #[imV I f1 h1 f2 h2, .int .i64 (IntKind.i64.wrap (I.sl + 1)), vlV p.v u1 t1 u2 t2]) (by kernel_rfl) (by rw [hws])) (fun ids w2 hp hf => eR ▸ xexec_any I f1 h1 f2 h2 fs (I.sl + 1) p.v u1 t1 u2 t2 w2 (atO hf.x.1.1.1.2) (by omega) (by omega) ((hxs p hpm).1.fit.at_ hf.x.2)) (by intros; kernel_rfl) (by kernel_rfl) (by kernel_rfl) (by intros; kernel_rfl) ?_
    intro q1 r1 q2 r2 es3 oa3 oc3 hm3 hdj3 hsm3 hso3 hn3
    have bRt := bR.tb
    have bRl := bR.len
    refine holds_env (ρ' := ⟨[cut] ++ imI (fstM ms) ++ ((k : Int) :: imI I ++ imI I) ++ [p.v.k, p.v.k] ++ imI R.i ++ [R.e, p.v.k, p.v.k] ++ imI R.i ++ [R.e], [true, setOkB ms], [], [ms.length, cap0, xs.length, cap, ms.length, c', ms.length, y1, 0, y2, I.mem.length, g1, I.tb.length, g2, I.mem.length, h1, I.tb.length, h2, p.v.cs.length, p.c1, p.v.ns.length, p.c2, p.v.cs.length, d1, p.v.ns.length, d2, R.i.mem.length, n1, R.i.tb.length, n2, R.an.length, oc, p.v.cs.length, p.c1, p.v.ns.length, p.c2, p.v.cs.length, t1, p.v.ns.length, t2, R.i.mem.length, r1, R.i.tb.length, r2, R.an.length, oc3], [a0, a, a', x1, x2, e1, e2, f1, f2, p.a1, p.a2, b1, b2, m1, m2, oa, p.a1, p.a2, u1, u2, q1, q2, oa3]⟩) (by kernel_rfl) ?_
    refine br_F (R.e != R.e) (by kernel_rfl) (by simp) ?_
    refine node_P ⟨[], [true], [], [], []⟩ #[.slice oa R.an.length oc, .slice oa3 R.an.length oc3] (.bool true) (by intros; kernel_rfl) (by intros; kernel_rfl) (by kernel_rfl) (by kernel_rfl) (by kernel_rfl) oneNil (fun ids w2 hp hf => rsameAns_any R.an oa oc oa3 oc3 w2 hf.x.1.1.2.2 hf.x.2.2 (by omega)) ?_
    refine br_f (by kernel_rfl) ?_
    refine ⟨BkJ20 (k + 1), ?_, ?_⟩
    · by_cases hz : R.e = 0
      · have ok := okR hz
        have hsl2 : R.i.sl ≤ ((k + 1 : Nat) : Int) := by rw [ok.sl]; omega
        have hep2 : R.i.ep ≤ ((k + 1 : Nat) : Int) := by rw [ok.ep]; split <;> omega
        refine br_T (R.e == 0) (by kernel_rfl) (by simpa using hz) ?_
        exact again_W ⟨imI R.i ++ imI R.i, [], [], [R.i.mem.length, n1, R.i.tb.length, n2, R.i.mem.length, r1, R.i.tb.length, r2], [m1, m2, q1, q2]⟩ rfl (by intros; kernel_rfl) ((imR R.i m1 m2 es2).and (imR R.i q1 q2 es3)) (fun w2 ids hf => ⟨⟨⟨(imR_of hf.x.1.1.2.1).1, (imR_of hf.x.2.1).1⟩, fun j hj => hf.sep j (hj.elim (fun z => .inl (.inl (.inr (.inl ((imR_of hf.x.1.1.2.1).2 j z))))) (fun z => .inr (.inl ((imR_of hf.x.2.1).2 j z))))⟩, ⟨R.i, m1, n1, m2, n2, es2, q1, r1, q2, r2, es3, ok.ok, kR, hsl2, hep2, hm2, hm3, rfl, rfl⟩⟩)
      · refine br_F (R.e == 0) (by kernel_rfl) (by simpa using hz) ?_
        exact again_V ⟨imI I ++ imI I, [], [], [I.mem.length, g1, I.tb.length, g2, I.mem.length, h1, I.tb.length, h2], [e1, e2, f1, f2]⟩ rfl (by intros; kernel_rfl) (HM.and HO) (fun w2 ids hf => ⟨hf.x.1.1.1.1, fun j hj => hf.sep j (.inl (.inl (.inl (.inl hj))))⟩) ⟨I, e1, g1, e2, g2, es, f1, h1, f2, h2, fs, hJ, hKF, by omega, by omega, hes, hfs, rfl, by rw [eHM, eHO]⟩
    rintro vs hx' hcnt2 ⟨J, v1, w1, v2, w2, gs, z1, o1, z2, o2, ls, hJ2, hKF2, hsl2, hep2, hgs, hls, rfl, rfl⟩
    have hB2 := hJ2.big
    have bt2 := hB2.tb
    have bm2 := hB2.len
    have hgsl : gs.length = J.tb.length := es_len hgs
    have hvJ : validI J = true := (validI_iff J).2 hJ2.1
    obtain ⟨HP, eHP⟩ : ∃ HP, HP = imR J v1 v2 gs := ⟨_, rfl⟩
    have atP : ∀ {w2 : World}, HP.X w2 → ImAt w2 J v1 v2 gs := fun h => by rw [eHP] at h; exact hB2.at_ hgs h
    rw [← eHP]
    refine ⟨BkK20 J HP, ?_, ?_⟩
    · by_cases hkc : (k : Int) = cut
      · refine br_T ((k : Int) == cut) (by kernel_rfl) (by simpa using hkc) ?_
        have hN := NFit.of hJ2 hKF2
        obtain ⟨bs, ebs⟩ : ∃ bs, bs = encB J := ⟨_, rfl⟩
        have hebs : bs = intsL (numsI J) := by rw [ebs]; unfold encB; rw [if_pos hvJ]
        have hlen : bs.length ≤ 16384 := by
          have h1 := intsL_len hN
          have h2 := nums_len hJ2.1
          rw [hebs]; omega
        have hbyt : Byt bs := by rw [hebs]; exact intsL_byt hN
        have hX0 : encX J = 0 := by unfold encX; rw [if_pos hvJ]
        obtain ⟨hd0, hdJ⟩ := dec_back hJ2.1 hJ2.2.1 hN
        rw [← hebs] at hd0 hdJ
        have hDI : decI bs = J := by unfold decI; rw [if_pos hd0, hdJ]
        refine node_newi (V := fun v => .tuple #[v, .int .i64 0]) (bs := bs) (fun ids => #[imV J v1 w1 v2 w2]) (fun a' c' => ⟨[0], [], [], [bs.length, c'], [a']⟩) (by intros; kernel_rfl) (fun ids w3 hp hf => by
          have := xencode_any J v1 w1 v2 w2 gs w3 (atP hf.x.1) (by omega) hN
          rw [hX0, ← ebs] at this
          exact this) (by intros; kernel_rfl) (by kernel_rfl) (by kernel_rfl) (by intros; kernel_rfl) (fun _ _ => oneNil) ?_
        intro s1 s2 hs1 hs2
        refine br_F ((0 : Int) != 0) (by kernel_rfl) (by decide) ?_
        refine br_F (decide ((bs.length : Int) > 16384)) (by kernel_rfl) (decide_eq_false (by omega)) ?_
        refine node_im (V := fun v => .tuple #[v, .int .i64 0]) (I := J) (fun ids => #[.slice s1 bs.length s2]) (fun x1 y1 x2 y2 => ⟨imI J ++ [0], [], [], [J.mem.length, y1, J.tb.length, y2], [x1, x2]⟩) (by intros; kernel_rfl) (fun ids w3 hp hf => by
          have := xdecode_any s1 s2 bs w3 (frow_cells hf.x.2) hbyt (by omega)
          rw [hd0, hDI] at this
          exact this) (by intros; kernel_rfl) (by kernel_rfl) (by kernel_rfl) (by intros; kernel_rfl) (fun _ _ _ _ => oneNil) ?_
        intro l1 l2 l3 l4 fs4 hm4 hdj4 hsm4 had4 hn4
        refine br_F ((0 : Int) != 0) (by kernel_rfl) (by decide) ?_
        exact again_W ⟨imI J, [], [], [J.mem.length, l2, J.tb.length, l4], [l1, l3]⟩ rfl (by intros; kernel_rfl) (HP.and (imR J l1 l3 fs4)) (fun w3 ids hf => ⟨⟨⟨hf.x.1.1.1, (imR_of hf.x.2).1⟩, fun j hj => hf.sep j (hj.elim (fun z => .inl (.inl (.inl z))) (fun z => .inr ((imR_of hf.x.2).2 j z)))⟩, ⟨l1, l2, l3, l4, fs4, hm4, rfl, rfl⟩⟩)
      · refine br_F ((k : Int) == cut) (by kernel_rfl) (by simpa using hkc) ?_
        exact again_V ⟨imI J, [], [], [J.mem.length, o1, J.tb.length, o2], [z1, z2]⟩ rfl (by intros; kernel_rfl) (HP.and (imR J z1 z2 ls)) (fun w3 ids hf => ⟨hf.x, hf.sep⟩) ⟨z1, o1, z2, o2, ls, hls, rfl, rfl⟩
    rintro vs hx' hcnt3 ⟨l1, l2, l3, l4, fs4, hm4, rfl, rfl⟩
    refine node_P ⟨[], [true], [], [], []⟩ #[imV J v1 w1 v2 w2] (.bool true) (by intros; kernel_rfl) (by intros; kernel_rfl) (by kernel_rfl) (by kernel_rfl) (by kernel_rfl) oneNil (fun ids w3 hp hf => by
      have := xvalid_any J v1 w1 v2 w2 gs w3 (atP hf.x.1) (by omega)
      rw [hvJ] at this
      exact this) ?_
    refine br_f (by kernel_rfl) ?_
    exact again_V ⟨((k + 1 : Nat) : Int) :: imI J ++ imI J, [], [], [J.mem.length, w1, J.tb.length, w2, J.mem.length, l2, J.tb.length, l4], [v1, v2, l1, l3]⟩ rfl (fun ids => Eq.trans (b := ⟨IntKind.i64.wrap ((k : Int) + 1) :: imI J ++ imI J, [], [], [J.mem.length, w1, J.tb.length, w2, J.mem.length, l2, J.tb.length, l4], [v1, v2, l1, l3]⟩) (by kernel_rfl) (by rw [hwk])) (HP.and (imR J l1 l3 fs4)) (fun w3 ids hf => ⟨hf.x, hf.sep⟩) ⟨⟨k + 1, J, v1, w1, v2, w2, gs, l1, l2, l3, l4, fs4, hlt, hlt6, hJ2, hKF2, hsl2, hep2, hgs, hm4, rfl, by rw [eHP]⟩, by
      show xs.length - (((k + 1 : Nat) : Int)).toNat < xs.length - ((k : Int)).toNat
      omega⟩
theorem back20_args (a0 : Option Addr) (cap0 : Nat) (ms : List Int) (a : Option Addr) (cap : Nat) (ds : List Dat) (cut : Int) (w : World) (H0 : Ints w a0 ms) (hml : ms.length * 8 ≤ 140737488351232) (hC : Cells w a (Dat.cellsAll ds)) (hds : ∀ d ∈ ds, d.In Try.prog w 37) (hl : ds.length ≤ 9223372036854775807) (hb : ds.length * Try.prog.bytesOf 37 ≤ reachBytes) (hs : I64 cut) :
    Calls Try.prog 8 #[.slice a0 ms.length cap0, .slice a ds.length cap, .int .i64 cut] w fun e w' => e = .returned (.bool true) ∧ Below w.heap.size w w' := by
  obtain ⟨xs, e1, e2, hxs⟩ := opn_pvs ds hds
  rw [e2] at hC
  rw [← e1]
  exact back20_walk a0 cap0 ms a cap xs cut w H0 hml hC hxs
end Go.Proofs.Ytfjiolgdcphjhaa
