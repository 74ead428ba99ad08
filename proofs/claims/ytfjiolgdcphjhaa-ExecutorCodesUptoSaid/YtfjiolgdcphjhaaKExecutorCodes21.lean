/- Part 21 of the texts of a proof about the given program: what the statement's proof needs of them. -/
import Derived.Test.YtfjiolgdcphjhaaKExecutorCodes20
namespace Go.Proofs.Ytfjiolgdcphjhaa
open Go.ChangeShapes Go.WideShapes Go.ChangeAt Go.RowKit Go.Syn Go.Eng
set_option linter.unusedVariables false
set_option linter.unusedSimpArgs false
set_option maxRecDepth 100000
def upN (most v : Int) : Int := if v < 0 ∨ most < v then most + 1 else v
def cnt (most v : Int) : Nat := (upN most v).toNat
theorem upN_cnt {most : Int} (h : 0 ≤ most) (v : Int) : upN most v = (cnt most v : Int) ∧ cnt most v ≤ most.toNat + 1 := by
  unfold cnt upN; split <;> omega
def nuL (ν : Nat → Int) (i k : Nat) : List Int := (List.range k).map fun j => ν (i + j)
def kpO (ν : Nat → Int) (i : Nat) : KpD := ⟨ν i, ν (i + 1), ν (i + 2), ν (i + 3)⟩
def kpL (ν : Nat → Int) (i k : Nat) : List KpD := (List.range k).map fun j => kpO ν (i + 4 * j)
def sesO (ν : Nat → Int) (i : Nat) : SsD := ⟨ν i, ν (i + 1), kpL ν (i + 3) (cnt 8 (ν (i + 2)))⟩
def sesE (ν : Nat → Int) (i : Nat) : Nat := i + 3 + 4 * cnt 8 (ν (i + 2))
def sesP (ν : Nat → Int) (q : Nat) : Nat → Nat
  | 0 => q
  | k + 1 => sesE ν (sesP ν q k)
def sesL (ν : Nat → Int) (q k : Nat) : List SsD := (List.range k).map fun j => sesO ν (sesP ν q j)
theorem range_snoc {α : Type} (f : Nat → α) (k : Nat) : (List.range (k + 1)).map f = (List.range k).map f ++ [f k] := by
  rw [List.range_succ, List.map_append]; rfl
def r16 (ν : Nat → Int) (q : Nat) : List Int := [ν (q + 0), ν (q + 1), ν (q + 2), ν (q + 3), ν (q + 4), ν (q + 5), ν (q + 6), ν (q + 7), ν (q + 8), ν (q + 9), ν (q + 10), ν (q + 11), ν (q + 12), ν (q + 13), ν (q + 14), ν (q + 15)]
def imD (ν : Nat → Int) : Im := ⟨ν 0, nuL ν 3 (cnt 7 (ν 2)), ν 1, r16 ν (3 + cnt 7 (ν 2)), sesL ν (3 + cnt 7 (ν 2) + 17) (cnt 16 (ν (3 + cnt 7 (ν 2) + 16)))⟩
def enD (ν : Nat → Int) : Nat := sesP ν (3 + cnt 7 (ν 2) + 17) (cnt 16 (ν (3 + cnt 7 (ν 2) + 16)))
structure Rds (bs : List Int) (P : Nat → Nat × Int) (ν : Nat → Int) : Prop where
  le : ∀ j, (P j).1 ≤ bs.length
  st : ∀ j, stN bs (P j) = P (j + 1)
  va : ∀ j, vaN bs (P j) = ν j
  fit : ∀ j, I64 (ν j)
theorem Rds.shift {bs : List Int} {P : Nat → Nat × Int} {ν : Nat → Int} (h : Rds bs P ν) (i : Nat) : Rds bs (fun j => P (i + j)) (fun j => ν (i + j)) := ⟨fun j => h.le _, fun j => h.st _, fun j => h.va _, fun j => h.fit _⟩
def plD (bs : List Int) (j : Nat) : Nat × Int := itN (stN bs) j (0, 0)
def nuD (bs : List Int) (j : Nat) : Int := vaN bs (plD bs j)
theorem rds (bs : List Int) (hb : Byt bs) : Rds bs (plD bs) (nuD bs) := ⟨it_le (stN_le bs) (Nat.zero_le _), fun _ => rfl, fun _ => rfl, fun j => vaN_fit hb _⟩
theorem Facts.newx {C : Cfg} {ρ : Env} {hx hx2 : HX} {m m' : Mem} {ids : List Nat} {w w' : World} {vs : Vals} {b ty : Nat} {cs' : List LV} (hf : Facts C m ρ ids hx w) (hbel : Below w.heap.size w w') (hb0 : w.heap.size ≤ b) (hb : w'.heap[b]? = some (.cells (cellsDen (ρ.add vs) (ids ++ [b]) cs').toArray ty (0, 0))) (hX : hx2.X w') (hge : ∀ k, hx2.F k → w.heap.size ≤ k ∧ k < w'.heap.size ∧ k ≠ b)
    (hhp : m'.hp = m.hp ++ [(ty, cs')]) (hfit : hpFits m.c m.hp.length m.hp = true) (hc : (ρ.add vs).cnt = m'.c) (h1 : ∀ v, v ∈ vs.v → v.oneCell' = true) : Facts C m' (ρ.add vs) (ids ++ [b]) (hx.and hx2) w' := by

  have hpre : ids <+: ids ++ [b] := List.prefix_append _ _
  refine ⟨by rw [hhp]; simp [hf.len], ?_, fun k t2 cs2 hk => ?_, ?_, hf.chg.trans (chg_of_below hbel), ⟨hx.loc w w' hf.x (fun b hb2 => hbel.block b (hf.sep b hb2).1), hX⟩, ?_, envUp hf hc h1⟩
  · refine List.nodup_append.2 ⟨hf.nod, by simp, ?_⟩
    intro x hx1 y hy
    simp only [List.mem_singleton] at hy
    subst hy
    have := hf.id_lt hx1
    omega
  · rw [hhp, List.getElem?_append] at hk
    split at hk
    · rename_i hlt
      rw [idAt_pre hpre (hf.len ▸ hlt), hbel.block _ (hf.id_lt (idAt_mem (hf.len ▸ hlt))), hf.blk k t2 cs2 hk, cellsDen_add hf.cnt.cnt hpre hf.len (List.all_eq_true.1 hfit _ (List.mem_of_getElem? hk))]
    · rename_i hge
      have hk0 : k - m.hp.length = 0 := by
        rcases Nat.eq_zero_or_pos (k - m.hp.length) with q | q
        · exact q
        · rw [List.getElem?_eq_none (by simp; omega)] at hk; cases hk
      rw [hk0] at hk
      simp only [List.getElem?_cons_zero, Option.some.injEq, Prod.mk.injEq] at hk
      obtain ⟨rfl, rfl⟩ := hk
      have hkl : k = ids.length := by have := hf.len; omega
      have h2 : idAt (ids ++ [b]) k = b := by simp [idAt, hkl]
      rw [h2]; exact hb
  · intro id hid
    rcases List.mem_append.1 hid with h | h
    · exact hf.own id h
    · simp only [List.mem_singleton] at h; subst h; exact .inl (Nat.le_trans hf.chg.size hb0)
  · intro b2 hb2
    simp only [List.mem_append, List.mem_singleton, not_or]
    rcases hb2 with hb2 | hb2
    · obtain ⟨h3, h4⟩ := hf.sep b2 hb2
      exact ⟨Nat.lt_of_lt_of_le h3 hbel.size, h4, by omega⟩
    · obtain ⟨h3, h4, h5⟩ := hge b2 hb2
      exact ⟨h4, fun q => by have := hf.id_lt q; omega, h5⟩

section
variable {C : Cfg} {ρ : Env} {pre : List Nat} {hx : HX} {L : Stack} {m m' : Mem} {args : List SV} {r : SV} {t : Tree} {a : Option Addr} {cap : Nat} {bs : List Int}
theorem node_rnew (cs' : List LV) (vs : Option Addr → Nat → Vals) (hP : C.P = Try.prog) (hargs : ∀ ids, (args.map (SV.den ρ ids)).toArray = #[.slice a bs.length cap]) (hH : ∀ ids w, Facts C m ρ ids hx w → Cells w a (bcells bs)) (hl : bs.length ≤ 140737488355328)
    (hcs' : ∀ a' c' ids, cellsDen (ρ.add (vs a' c')) ids cs' = rcells a' c' bs 0 0) (hr : r = .lf (.ptr m.hp.length 0)) (hhp : m'.hp = m.hp ++ [(162, cs')]) (hfit : hpFits m.c m.hp.length m.hp = true) (hc : ∀ a' c', (ρ.add (vs a' c')).cnt = m'.c) (h1 : ∀ a' c' v, v ∈ (vs a' c').v → v.oneCell' = true)
    (h : ∀ a' c', bs.length ≤ c' → (bs ≠ [] → a'.isSome = true) → (∀ k, c' ≠ 0 → abk a' = some k → C.W.heap.size ≤ k ∧ ¬ hx.F k) → t.holds C (ρ.add (vs a' c')) pre (hx.and (frow a' c' bs)) L) : (Tree.call 64 args m r m' t).holds C ρ pre hx L := by
  intro ids w hp hf
  rw [hargs, hP]
  refine (rnew_any a cap bs w (hH ids w hf) hl).mono ?_
  rintro e w' ⟨b, a', c', rfl, hb0, hb, hX, hfr, hbel⟩
  have hpre : ids <+: ids ++ [b] := List.prefix_append _ _
  refine ⟨vs a' c', ids ++ [b], hx.and (frow a' c' bs), ?_, hpre, Facts.newx hf hbel hb0 ?_ hX (fun k hk => ⟨(hfr k hk.1 hk.2).1, rw_ltx hX hk.1 hk.2, (hfr k hk.1 hk.2).2⟩) hhp hfit (hc _ _) (h1 _ _), holds_pre t (hp.trans hpre) (h a' c' (frow_le hX) (row_some hX) fun k k1 k2 => ⟨Nat.le_trans hf.chg.size (hfr k k1 k2).1, fun q => by have := (hf.sep _ q).1; have := (hfr k k1 k2).1; omega⟩)⟩
  · subst hr
    simp only [SV.den, LV.den, idAt_last _ _ hf.len]
  · rw [hcs']; exact hb
theorem node_nu {p p' : Nat × Int} {x : Int} (n : Nat) (cs cs' : List LV) (hok : RdOk hx a cap bs) (hix : p.1 ≤ bs.length) (hst : stN bs p = p') (hva : vaN bs p = x) (hP : C.P = Try.prog) (hn : m.hp[n]? = some (162, cs)) (hcs : ∀ ids, cellsDen ρ ids cs = rcP a cap bs p)
    (hargs : ∀ ids, (args.map (SV.den ρ ids)).toArray = #[.pointer (some ⟨idAt ids n, 0, none⟩)]) (hhp : m'.hp = m.hp.set n (162, cs')) (hcs' : ∀ ids, cellsDen (ρ.add ⟨[(p'.1 : Int), p'.2, x], [], [], [bs.length, cap], [a]⟩) ids cs' = rcP a cap bs p') (hr : ∀ ids, r.den (ρ.add ⟨[(p'.1 : Int), p'.2, x], [], [], [bs.length, cap], [a]⟩) ids = .int .i64 x) (hfit : hpFits m.c m.hp.length m.hp = true) (hc : (ρ.add ⟨[(p'.1 : Int), p'.2, x], [], [], [bs.length, cap], [a]⟩).cnt = m'.c)
    (h : t.holds C (ρ.add ⟨[(p'.1 : Int), p'.2, x], [], [], [bs.length, cap], [a]⟩) pre hx L) : (Tree.call 65 args m r m' t).holds C ρ pre hx L := by
  subst hst; subst hva
  exact node_rd n ⟨[((stN bs p).1 : Int), (stN bs p).2, vaN bs p], [], [], [bs.length, cap], [a]⟩ (fun b => #[.pointer (some ⟨b, 0, none⟩)]) hok hix hP hn hcs hargs (fun w b h => rint_any b a cap bs p.1 p.2 w h) cs' hhp hcs' hr hfit hc oneNil h
def mrow (a : Option Addr) (c : Nat) (M : List Int) : HX := HX.rw 1 3 a M.length c (M.map (Value.int .i64))
theorem mrow_snoc (a : Option Addr) (c : Nat) (M : List Int) (x : Int) : HX.rw 1 3 a (M.length + 1) c (M.map (Value.int .i64) ++ [.int .i64 x]) = mrow a c (M ++ [x]) := by
  unfold mrow
  rw [List.length_append, List.map_append]; rfl
theorem info_i64 : (Try.prog.info? 3).map (fun i => (i.zero, i.size, i.bytes)) = some (some (.int .i64 0), 1, 8) := by kernel_rfl
theorem node_ipush {ty : Nat} {ps : List (Nat × SV)} {rest : HX} {so xo : Operand} {ac : Go.Call} {e2 : Nat} {lvs : List LV} (hC : C.P = Try.prog) (hac : ac = { callee := .builtin .append, args := #[so, xo], argTypes := #[22, 22] }) (a : Option Addr) (cap : Nat) (M : List Int) (x : Int) (bn : Nat) (hso : ∀ ids, envOf ρ ids ps so = .slice a M.length cap) (hxo : ∀ ids, envOf ρ ids ps xo = .slice (some ⟨idAt ids bn, 0, none⟩) 1 1)
    (hn : m.hp[bn]? = some (e2, lvs)) (hlv : ∀ ids, cellsDen ρ ids lvs = [.int .i64 x]) (hap : Apart C.W rest (mrow a cap M)) (hl : M.length ≤ 1000000)
    (hr : ∀ a' cap' ids, r.den (ρ.add ⟨[], [], [], [M.length + 1, cap'], [a']⟩) ids = .slice a' (M.length + 1) cap') (hhp : m'.hp = m.hp) (hfit : hpFits m.c m.hp.length m.hp = true) (hc : ∀ a' cap', (ρ.add ⟨[], [], [], [M.length + 1, cap'], [a']⟩).cnt = m'.c)
    (h : ∀ a' cap', Apart C.W rest (mrow a' cap' (M ++ [x])) → t.holds C (ρ.add ⟨[], [], [], [M.length + 1, cap'], [a']⟩) pre (rest.and (mrow a' cap' (M ++ [x]))) L) :
    (Tree.gen (.call ac) ty ps m (some r) m' t).holds C ρ pre (rest.and (mrow a cap M)) L := by
  obtain ⟨P, W, MM, R⟩ := C
  cases hC
  refine node_pushs (z := .int .i64 0) (sz := 1) (bytes := 8) hac (by kernel_rfl) info_i64 rfl (by decide) a M.length cap (M.map (Value.int .i64)) [.int .i64 x] bn hso hxo hn hlv rfl (fun v hv => by rw [List.mem_singleton.1 hv]; rfl) (fun q h1 h2 hF => (hap q ⟨h1, h2⟩).2 hF) (fun q h1 h2 => .inl (hap q ⟨h1, h2⟩).1) (by simp [maxLen]; omega) (by omega) hr hhp hfit hc ?_
  intro a' c' hc' hdis hwh
  rw [mrow_snoc]
  refine h a' c' fun q hq => ⟨?_, hdis q hq.2⟩
  rcases hwh with ⟨z1, z2⟩ | ⟨g, z1, z2, z3⟩
  · exact (hap q ⟨z1, by rw [← z2]; exact hq.2⟩).1
  · rw [hq.2] at z1; cases z1; exact z2
theorem xupto_any (nb : Nat) (a : Option Addr) (cap : Nat) (bs : List Int) (p : Nat × Int) (most : Int) (hm : 0 ≤ most ∧ most ≤ 1000) (w : World) (H : RdAt w nb a cap bs p.1 p.2) :
    Calls Try.prog 66 #[.pointer (some ⟨nb, 0, none⟩), .int .i64 most] w (At1 w nb 162 (.int .i64 (upN most (vaN bs p))) (rcP a cap bs (stN bs p))) := by
  refine calls_at (tab_ok _) Try.func66 rfl tXUpTo (ρ := ⟨[(p.1 : Int), p.2, most], [], [], [bs.length, cap], [a]⟩) (ids := [nb]) (hx := HX.cl a (bcells bs)) (M := fun x => x = nb) (by kernel_rfl) (Facts.initx rfl oneNil H.blk (by kernel_rfl) (by kernel_rfl) H.mem H.sepc) ?_
  obtain ⟨x, ex⟩ : ∃ x, x = vaN bs p := ⟨_, rfl⟩
  obtain ⟨p', ep⟩ : ∃ p', p' = stN bs p := ⟨_, rfl⟩
  rw [← ex, ← ep]
  refine node_nu 0 [.sl 0 (.var 0) (.var 1), .int .i64 (.var 0), .int .i64 (.var 1)] [.sl 1 (.var 2) (.var 3), .int .i64 (.var 3), .int .i64 (.var 4)] H.ok H.ix ep.symm ex.symm rfl rfl (by intros; kernel_rfl) (by intros; kernel_rfl) rfl (by intros; kernel_rfl) (by intros; kernel_rfl) rfl (by kernel_rfl) ?_
  have hw : IntKind.i64.wrap (most + 1) = most + 1 := wrap_i64 (by omega)
  by_cases h1 : x < 0
  · refine br_T (decide (x < 0)) (by kernel_rfl) (decide_eq_true h1) ?_
    exact at1_done (fun _ => Eq.trans (b := .int .i64 (IntKind.i64.wrap (most + 1))) (by kernel_rfl) (by rw [hw, upN, if_pos (.inl h1)])) (by intros; kernel_rfl)
  refine br_F (decide (x < 0)) (by kernel_rfl) (decide_eq_false h1) ?_
  by_cases h2 : most < x
  · refine br_T (decide (x > most)) (by kernel_rfl) (decide_eq_true h2) ?_
    exact at1_done (fun _ => Eq.trans (b := .int .i64 (IntKind.i64.wrap (most + 1))) (by kernel_rfl) (by rw [hw, upN, if_pos (.inr h2)])) (by intros; kernel_rfl)
  refine br_F (decide (x > most)) (by kernel_rfl) (decide_eq_false h2) ?_
  exact at1_done (fun _ => Eq.trans (b := .int .i64 x) (by kernel_rfl) (by rw [upN, if_neg (by omega)])) (by intros; kernel_rfl)
theorem node_up {p p' : Nat × Int} {x most : Int} {k : Nat} (n : Nat) (cs cs' : List LV) (hm : 0 ≤ most ∧ most ≤ 1000) (hok : RdOk hx a cap bs) (hix : p.1 ≤ bs.length) (hst : stN bs p = p') (hva : vaN bs p = x) (hk : upN most x = (k : Int)) (hP : C.P = Try.prog) (hn : m.hp[n]? = some (162, cs)) (hcs : ∀ ids, cellsDen ρ ids cs = rcP a cap bs p)
    (hargs : ∀ ids, (args.map (SV.den ρ ids)).toArray = #[.pointer (some ⟨idAt ids n, 0, none⟩), .int .i64 most]) (hhp : m'.hp = m.hp.set n (162, cs')) (hcs' : ∀ ids, cellsDen (ρ.add ⟨[(p'.1 : Int), p'.2, (k : Int)], [], [], [bs.length, cap], [a]⟩) ids cs' = rcP a cap bs p') (hr : ∀ ids, r.den (ρ.add ⟨[(p'.1 : Int), p'.2, (k : Int)], [], [], [bs.length, cap], [a]⟩) ids = .int .i64 (k : Int)) (hfit : hpFits m.c m.hp.length m.hp = true) (hc : (ρ.add ⟨[(p'.1 : Int), p'.2, (k : Int)], [], [], [bs.length, cap], [a]⟩).cnt = m'.c)
    (h : t.holds C (ρ.add ⟨[(p'.1 : Int), p'.2, (k : Int)], [], [], [bs.length, cap], [a]⟩) pre hx L) : (Tree.call 66 args m r m' t).holds C ρ pre hx L := by
  refine node_rd n ⟨[(p'.1 : Int), p'.2, (k : Int)], [], [], [bs.length, cap], [a]⟩ (fun b => #[.pointer (some ⟨b, 0, none⟩), .int .i64 most]) hok hix hP hn hcs hargs (fun w b h => ?_) cs' hhp hcs' hr hfit hc oneNil h
  have := xupto_any b a cap bs p most hm w h
  rw [hva, hst, hk] at this
  exact this
end
def decX (bs : List Int) : Int := if 16384 < bs.length then 44 else if doneB bs.length (plD bs (enD (nuD bs))).1 (plD bs (enD (nuD bs))).2 ≠ 0 then 44 else if validI (imD (nuD bs)) then 0 else 44
def decI (bs : List Int) : Im := if decX bs = 0 then imD (nuD bs) else im0
theorem RdOk.and {hx h2 : HX} {a : Option Addr} {cap : Nat} {bs : List Int} (h : RdOk hx a cap bs) : RdOk (hx.and h2) a cap bs := ⟨fun w q => h.cl w q.1, fun k q => .inl (h.fr k q), h.byt, h.len, h.cap⟩
def DmI (W : World) (R : HX) (P : Nat → Nat × Int) (ν : Nat → Int) (n : Nat) (bl rc : Nat) (ra : Option Addr) (vs : Vals) (hx : HX) : Prop := ∃ (k : Nat) (a : Option Addr) (c : Nat), k ≤ n ∧ Apart W R (mrow a c (nuL ν 3 k)) ∧
  vs = ⟨[(k : Int), ν 0, ν 1, 0, 0, 0, 0, 0, 0, 0, 0, 0, 0, 0, 0, 0, 0, 0, 0, ((P (3 + k)).1 : Int), (P (3 + k)).2], [], [], [(nuL ν 3 k).length, c, 0, 0, bl, rc], [a, none, ra]⟩ ∧ hx = R.and (mrow a c (nuL ν 3 k))
def DsI (W : World) (R : HX) (P : Nat → Nat × Int) (ν : Nat → Int) (ep sl : Int) (rr : List Int) (q n : Nat) (ml mc bl rc : Nat) (ma ra : Option Addr) (vs : Vals) (hx : HX) : Prop := ∃ (k : Nat) (a : Option Addr) (c : Nat) (ds : List SE), k ≤ n ∧ ds.map SE.s = sesL ν q k ∧ Dj a c ds ∧ Apart W R (ksR ds) ∧ Apart W R (srow a c ds) ∧
  vs = ⟨[(k : Int), ep, sl] ++ rr ++ [((P (sesP ν q k)).1 : Int), (P (sesP ν q k)).2], [], [], [ml, mc, ds.length, c, bl, rc], [ma, a, ra]⟩ ∧ hx = (R.and (ksR ds)).and (srow a c ds)
def DkI (W : World) (T : HX) (P : Nat → Nat × Int) (ν : Nat → Int) (q n : Nat) (no ack : Int) (bl rc : Nat) (ra : Option Addr) (vs : Vals) (hx : HX) : Prop := ∃ (k : Nat) (a : Option Addr) (c : Nat), k ≤ n ∧ Apart W T (krow a c (kpL ν q k)) ∧
  vs = ⟨[(k : Int), ((P (q + 4 * k)).1 : Int), (P (q + 4 * k)).2, no, ack], [], [], [bl, rc, (kpL ν q k).length, c], [ra, a]⟩ ∧ hx = T.and (krow a c (kpL ν q k))
theorem nuL_len (ν : Nat → Int) (i k : Nat) : (nuL ν i k).length = k := by unfold nuL; simp
theorem kpL_len (ν : Nat → Int) (i k : Nat) : (kpL ν i k).length = k := by unfold kpL; simp
theorem sesL_len (ν : Nat → Int) (i k : Nat) : (sesL ν i k).length = k := by unfold sesL; simp
set_option maxHeartbeats 16000000 in
theorem xdecode_any (a : Option Addr) (cap : Nat) (bs : List Int) (w : World) (H : Cells w a (bcells bs)) (hb : Byt bs) (hl : bs.length ≤ 140737488355328) : Calls Try.prog 30 #[.slice a bs.length cap] w (ImNew w (fun v => .tuple #[v, .int .i64 (decX bs)]) (decI bs)) := by
  refine calls_at (tab_ok _) Try.func30 rfl tXDec (ρ := ⟨[], [], [], [bs.length, cap], [a]⟩) (ids := []) (hx := HX.nil) (by kernel_rfl) (Facts.initP rfl oneNil) ?_
  have keep : ∀ {m : Mem} {ρ : Env} {ids : List Nat} {hx : HX} {w2 : World} {R : Ending → World → Prop}, Facts ⟨Try.prog, w, fun _ => False, R⟩ m ρ ids hx w2 → Cells w2 a (bcells bs) := fun hf => cl_stay H (fun k hk => hf.chg.block k hk (fun q => q))
  obtain ⟨E, eE⟩ : ∃ E, E = decX bs := ⟨_, rfl⟩
  obtain ⟨DI, eDI⟩ : ∃ D, D = decI bs := ⟨_, rfl⟩
  rw [← eE, ← eDI]
  have bad : ∀ {v : SV} {m : Mem} {ρ : Env} {hx : HX} {L : Stack} {pre : List Nat}, E = 44 → (∀ ids, v.den ρ ids = .tuple #[imV im0 none 0 none 0, .int .i64 44]) → (Tree.done v m).holds ⟨Try.prog, w, fun _ => False, ImNew w (fun v => .tuple #[v, .int .i64 E]) DI⟩ ρ pre hx L := by
    intro v m ρ hx L pre h1 h2 ids w2 hp hf
    have h3 : DI = im0 := by rw [eDI]; unfold decI; rw [← eE, h1]; rfl
    rw [h1, h3, h2]
    refine ⟨none, 0, none, 0, [], rfl, rfl, ⟨fun i j e e' _ h => by simp at h, fun e he => (by cases he)⟩, (fun q hq => by
      rcases hq with ⟨e, he, _⟩ | hq
      · cases he
      · exact absurd rfl hq.1), ⟨cl_nil _ _, ⟨fun e he => (by cases he), HX.rw_nil _ _ _ _⟩⟩, ?_, hf.chg.below⟩
    rintro k (hk | ⟨e, he, _⟩ | hk)
    · exact absurd rfl hk.1
    · cases he
    · exact absurd rfl hk.1
  by_cases h0 : 16384 < bs.length
  · exact br_T (decide ((bs.length : Int) > 16384)) (by kernel_rfl) (decide_eq_true (by omega)) (bad (by rw [eE, decX, if_pos h0]) (by intros; kernel_rfl))
  refine br_F (decide ((bs.length : Int) > 16384)) (by kernel_rfl) (decide_eq_false (by omega)) ?_
  refine node_rnew (a := a) (cap := cap) (bs := bs) [.sl 1 (.var 2) (.var 3), .int .i64 (.var 0), .int .i64 (.var 1)] (fun a' c' => ⟨[0, 0], [], [], [bs.length, c'], [a']⟩) rfl (by intros; kernel_rfl) (fun ids w2 hf => keep hf) hl (by intros; kernel_rfl) rfl rfl rfl (by intros; kernel_rfl) (fun _ _ => oneNil) ?_
  intro ra rc hbc hsm hfr
  obtain ⟨R, eR⟩ : ∃ R, R = HX.nil.and (frow ra rc bs) := ⟨_, rfl⟩
  have hok : RdOk R ra rc bs := by
    rw [eR]
    refine ⟨fun w h => frow_cells h.2, fun k h => .inr ?_, hb, hl, hbc⟩
    obtain ⟨hne, rfl⟩ := h
    have h0 : bs ≠ [] := fun q => hne (by rw [q]; rfl)
    have hc0 : rc ≠ 0 := fun q => h0 (List.eq_nil_of_length_eq_zero (by omega))
    exact ⟨hc0, by obtain ⟨x, hx⟩ := Option.isSome_iff_exists.1 (hsm h0); rw [hx]; rfl⟩
  rw [← eR]
  obtain ⟨P, eP⟩ : ∃ P, P = plD bs := ⟨_, rfl⟩
  obtain ⟨ν, eν⟩ : ∃ ν, ν = nuD bs := ⟨_, rfl⟩
  have hR : Rds bs P ν := by rw [eP, eν]; exact rds bs hb
  have hE2 : E = if doneB bs.length (P (enD ν)).1 (P (enD ν)).2 ≠ 0 then 44 else if validI (imD ν) then 0 else 44 := by rw [eE, eP, eν]; unfold decX; rw [if_neg h0]
  have hD2 : DI = if E = 0 then imD ν else im0 := by rw [eDI, eE, eν]; rfl
  have hp0 : P 0 = (0, 0) := by rw [eP]; rfl
  obtain ⟨n, en⟩ : ∃ n, n = cnt 7 (ν 2) := ⟨_, rfl⟩
  have hn7 := upN_cnt (most := 7) (by decide) (ν 2)
  rw [← en] at hn7
  have hn8 : n ≤ 8 := hn7.2

  refine node_nu 2 [.sl 1 (.var 2) (.var 3), .int .i64 (.var 0), .int .i64 (.var 1)] [.sl 2 (.var 4) (.var 5), .int .i64 (.var 2), .int .i64 (.var 3)] hok (p := (0, 0)) (Nat.zero_le _) (p' := P 1) (by rw [← hp0]; exact hR.st 0) (x := ν 0) (by rw [← hp0]; exact hR.va 0) rfl rfl (by intros; kernel_rfl) (by intros; kernel_rfl) rfl (by intros; kernel_rfl) (by intros; kernel_rfl) rfl (by kernel_rfl) ?_
  refine node_nu 2 [.sl 2 (.var 4) (.var 5), .int .i64 (.var 2), .int .i64 (.var 3)] [.sl 3 (.var 6) (.var 7), .int .i64 (.var 5), .int .i64 (.var 6)] hok (p := P 1) (hR.le 1) (p' := P 2) (hR.st 1) (x := ν 1) (hR.va 1) rfl rfl (by intros; kernel_rfl) (by intros; kernel_rfl) rfl (by intros; kernel_rfl) (by intros; kernel_rfl) rfl (by kernel_rfl) ?_
  refine node_up 2 [.sl 3 (.var 6) (.var 7), .int .i64 (.var 5), .int .i64 (.var 6)] [.sl 4 (.var 8) (.var 9), .int .i64 (.var 8), .int .i64 (.var 9)] (by decide) hok (p := P 2) (hR.le 2) (p' := P 3) (hR.st 2) (x := ν 2) (hR.va 2) hn7.1 rfl rfl (by intros; kernel_rfl) (by intros; kernel_rfl) rfl (by intros; kernel_rfl) (by intros; kernel_rfl) rfl (by kernel_rfl) ?_
  refine loop_i (DmI w R P ν n bs.length rc ra) (fun vs => n - (vs.i.headD 0).toNat) (fun ids w2 hp hf => ⟨R.and (mrow none 0 []), ⟨⟨hf.x, HX.rw_nil _ _ _ _⟩, fun q hq => hq.elim (fun z => hf.sep q z) (fun z => absurd rfl z.1)⟩, 0, none, 0, Nat.zero_le _, fun q hq => absurd rfl hq.1, (by intros; kernel_rfl), rfl⟩) ?_
  rintro vs hx' hcnt ⟨k, ma, mc, hk, hap, rfl, rfl⟩
  obtain ⟨M, eM⟩ : ∃ M, M = nuL ν 3 k := ⟨_, rfl⟩
  have hMl : M.length = k := by rw [eM, nuL_len]
  rw [← eM] at hap hcnt ⊢
  refine holds_env (ρ' := ⟨[0, 0, ((P 1).1 : Int), (P 1).2, ν 0, ((P 2).1 : Int), (P 2).2, ν 1, ((P 3).1 : Int), (P 3).2, (n : Int), (k : Int), ν 0, ν 1, 0, 0, 0, 0, 0, 0, 0, 0, 0, 0, 0, 0, 0, 0, 0, 0, ((P (3 + k)).1 : Int), (P (3 + k)).2], [], [], [bs.length, cap, bs.length, rc, bs.length, rc, bs.length, rc, bs.length, rc, M.length, mc, 0, 0, bs.length, rc], [a, ra, ra, ra, ra, ma, none, ra]⟩) (by kernel_rfl) ?_
  by_cases hlt : k < n
  · refine br_T (decide ((k : Int) < (n : Int))) (by kernel_rfl) (decide_eq_true (by omega)) ?_
    have hnx : M ++ [ν (3 + k)] = nuL ν 3 (k + 1) := by rw [eM]; unfold nuL; rw [range_snoc]
    have hwk : IntKind.i64.wrap ((k : Int) + 1) = ((k + 1 : Nat) : Int) := by rw [wrap_i64 (by omega)]; omega
    refine par_i ?_ ?_
    all_goals
      refine node_nu 2 [.sl 7 (.var 14) (.var 15), .int .i64 (.var 30), .int .i64 (.var 31)] [.sl 8 (.var 16) (.var 17), .int .i64 (.var 32), .int .i64 (.var 33)] hok.and (p := P (3 + k)) (hR.le _) (p' := P (3 + (k + 1))) (hR.st _) (x := ν (3 + k)) (hR.va _) rfl rfl (by intros; kernel_rfl) (by intros; kernel_rfl) rfl (by intros; kernel_rfl) (by intros; kernel_rfl) rfl (by kernel_rfl) ?_
      try refine par_i ?_ ?_
    all_goals
      refine node_ipush rfl rfl ma mc M (ν (3 + k)) 3 (by intros; kernel_rfl) (by intros; kernel_rfl) rfl (by intros; kernel_rfl) hap (by omega) (by intros; kernel_rfl) (by kernel_rfl) (by kernel_rfl) (by intros; kernel_rfl) ?_
      intro ma' mc' hap'
      have hl2 : (M ++ [ν (3 + k)]).length = M.length + 1 := by rw [List.length_append]; rfl
      refine again_V ⟨[((k + 1 : Nat) : Int), ν 0, ν 1, 0, 0, 0, 0, 0, 0, 0, 0, 0, 0, 0, 0, 0, 0, 0, 0, ((P (3 + (k + 1))).1 : Int), (P (3 + (k + 1))).2], [], [], [(M ++ [ν (3 + k)]).length, mc', 0, 0, bs.length, rc], [ma', none, ra]⟩ rfl (fun ids => Eq.trans (b := ⟨[IntKind.i64.wrap ((k : Int) + 1), ν 0, ν 1, 0, 0, 0, 0, 0, 0, 0, 0, 0, 0, 0, 0, 0, 0, 0, 0, ((P (3 + (k + 1))).1 : Int), (P (3 + (k + 1))).2], [], [], [M.length + 1, mc', 0, 0, bs.length, rc], [ma', none, ra]⟩) (by kernel_rfl) (by rw [hwk, hl2])) _ (fun w2 ids hf => ⟨hf.x, hf.sep⟩) ⟨⟨k + 1, ma', mc', hlt, by rw [← hnx]; exact hap', by rw [← hnx], by rw [← hnx]⟩, ?_⟩
      show n - (((k + 1 : Nat) : Int)).toNat < n - ((k : Int)).toNat
      omega
  refine br_F (decide ((k : Int) < (n : Int))) (by kernel_rfl) (decide_eq_false (by omega)) ?_
  obtain rfl : n = k := by omega
  obtain ⟨p, ep⟩ : ∃ p, p = fun i => P (3 + n + i) := ⟨_, rfl⟩
  obtain ⟨r, er⟩ : ∃ r, r = fun i => ν (3 + n + i) := ⟨_, rfl⟩
  have hr : Rds bs p r := by rw [ep, er]; exact hR.shift _
  have hp0' : P (3 + n) = p 0 := by rw [ep]; rfl
  rw [hp0']
  refine holds_env (ρ' := ⟨[0, 0, ((P 1).1 : Int), (P 1).2, ν 0, ((P 2).1 : Int), (P 2).2, ν 1, ((P 3).1 : Int), (P 3).2, (n : Int), (n : Int), ν 0, ν 1, 0, 0, 0, 0, 0, 0, 0, 0, 0, 0, 0, 0, 0, 0, 0, 0, ((p 0).1 : Int), (p 0).2], [], [], [bs.length, cap, bs.length, rc, bs.length, rc, bs.length, rc, bs.length, rc, M.length, mc, 0, 0, bs.length, rc], [a, ra, ra, ra, ra, ma, none, ra]⟩) (by kernel_rfl) ?_
  refine node_nu 2 [.sl 7 (.var 14) (.var 15), .int .i64 (.var 30), .int .i64 (.var 31)] [.sl 8 (.var 16) (.var 17), .int .i64 (.var 32), .int .i64 (.var 33)] hok.and (p := p 0) (hr.le 0) (p' := p 1) (hr.st 0) (x := r 0) (hr.va 0) rfl rfl (by intros; kernel_rfl) (by intros; kernel_rfl) rfl (by intros; kernel_rfl) (by intros; kernel_rfl) rfl (by kernel_rfl) ?_
  refine node_nu 2 [.sl 8 (.var 16) (.var 17), .int .i64 (.var 32), .int .i64 (.var 33)] [.sl 9 (.var 18) (.var 19), .int .i64 (.var 35), .int .i64 (.var 36)] hok.and (p := p 1) (hr.le 1) (p' := p 2) (hr.st 1) (x := r 1) (hr.va 1) rfl rfl (by intros; kernel_rfl) (by intros; kernel_rfl) rfl (by intros; kernel_rfl) (by intros; kernel_rfl) rfl (by kernel_rfl) ?_
  refine node_nu 2 [.sl 9 (.var 18) (.var 19), .int .i64 (.var 35), .int .i64 (.var 36)] [.sl 10 (.var 20) (.var 21), .int .i64 (.var 38), .int .i64 (.var 39)] hok.and (p := p 2) (hr.le 2) (p' := p 3) (hr.st 2) (x := r 2) (hr.va 2) rfl rfl (by intros; kernel_rfl) (by intros; kernel_rfl) rfl (by intros; kernel_rfl) (by intros; kernel_rfl) rfl (by kernel_rfl) ?_
  refine node_nu 2 [.sl 10 (.var 20) (.var 21), .int .i64 (.var 38), .int .i64 (.var 39)] [.sl 11 (.var 22) (.var 23), .int .i64 (.var 41), .int .i64 (.var 42)] hok.and (p := p 3) (hr.le 3) (p' := p 4) (hr.st 3) (x := r 3) (hr.va 3) rfl rfl (by intros; kernel_rfl) (by intros; kernel_rfl) rfl (by intros; kernel_rfl) (by intros; kernel_rfl) rfl (by kernel_rfl) ?_
  refine holds_env (ρ' := ⟨[0, 0, ((P 1).1 : Int), (P 1).2, ν 0, ((P 2).1 : Int), (P 2).2, ν 1, ((P 3).1 : Int), (P 3).2, (n : Int), (n : Int), ν 0, ν 1, 0, 0, 0, 0, 0, 0, 0, 0, 0, 0, 0, 0, 0, 0, 0, 0, ((p 0).1 : Int), (p 0).2, ((p 1).1 : Int), (p 1).2, r 0, ((p 2).1 : Int), (p 2).2, r 1, ((p 3).1 : Int), (p 3).2, r 2, ((p 4).1 : Int), (p 4).2, r 3], [], [], [bs.length, cap, bs.length, rc, bs.length, rc, bs.length, rc, bs.length, rc, M.length, mc, 0, 0, bs.length, rc, bs.length, rc, bs.length, rc, bs.length, rc, bs.length, rc], [a, ra, ra, ra, ra, ma, none, ra, ra, ra, ra, ra]⟩) (by kernel_rfl) ?_
  refine node_nu 2 [.sl 11 (.var 22) (.var 23), .int .i64 (.var 41), .int .i64 (.var 42)] [.sl 12 (.var 24) (.var 25), .int .i64 (.var 44), .int .i64 (.var 45)] hok.and (p := p 4) (hr.le 4) (p' := p 5) (hr.st 4) (x := r 4) (hr.va 4) rfl rfl (by intros; kernel_rfl) (by intros; kernel_rfl) rfl (by intros; kernel_rfl) (by intros; kernel_rfl) rfl (by kernel_rfl) ?_
  refine node_nu 2 [.sl 12 (.var 24) (.var 25), .int .i64 (.var 44), .int .i64 (.var 45)] [.sl 13 (.var 26) (.var 27), .int .i64 (.var 47), .int .i64 (.var 48)] hok.and (p := p 5) (hr.le 5) (p' := p 6) (hr.st 5) (x := r 5) (hr.va 5) rfl rfl (by intros; kernel_rfl) (by intros; kernel_rfl) rfl (by intros; kernel_rfl) (by intros; kernel_rfl) rfl (by kernel_rfl) ?_
  refine node_nu 2 [.sl 13 (.var 26) (.var 27), .int .i64 (.var 47), .int .i64 (.var 48)] [.sl 14 (.var 28) (.var 29), .int .i64 (.var 50), .int .i64 (.var 51)] hok.and (p := p 6) (hr.le 6) (p' := p 7) (hr.st 6) (x := r 6) (hr.va 6) rfl rfl (by intros; kernel_rfl) (by intros; kernel_rfl) rfl (by intros; kernel_rfl) (by intros; kernel_rfl) rfl (by kernel_rfl) ?_
  refine node_nu 2 [.sl 14 (.var 28) (.var 29), .int .i64 (.var 50), .int .i64 (.var 51)] [.sl 15 (.var 30) (.var 31), .int .i64 (.var 53), .int .i64 (.var 54)] hok.and (p := p 7) (hr.le 7) (p' := p 8) (hr.st 7) (x := r 7) (hr.va 7) rfl rfl (by intros; kernel_rfl) (by intros; kernel_rfl) rfl (by intros; kernel_rfl) (by intros; kernel_rfl) rfl (by kernel_rfl) ?_
  refine holds_env (ρ' := ⟨[0, 0, ((P 1).1 : Int), (P 1).2, ν 0, ((P 2).1 : Int), (P 2).2, ν 1, ((P 3).1 : Int), (P 3).2, (n : Int), (n : Int), ν 0, ν 1, 0, 0, 0, 0, 0, 0, 0, 0, 0, 0, 0, 0, 0, 0, 0, 0, ((p 0).1 : Int), (p 0).2, ((p 1).1 : Int), (p 1).2, r 0, ((p 2).1 : Int), (p 2).2, r 1, ((p 3).1 : Int), (p 3).2, r 2, ((p 4).1 : Int), (p 4).2, r 3, ((p 5).1 : Int), (p 5).2, r 4, ((p 6).1 : Int), (p 6).2, r 5, ((p 7).1 : Int), (p 7).2, r 6, ((p 8).1 : Int), (p 8).2, r 7], [], [], [bs.length, cap, bs.length, rc, bs.length, rc, bs.length, rc, bs.length, rc, M.length, mc, 0, 0, bs.length, rc, bs.length, rc, bs.length, rc, bs.length, rc, bs.length, rc, bs.length, rc, bs.length, rc, bs.length, rc, bs.length, rc], [a, ra, ra, ra, ra, ma, none, ra, ra, ra, ra, ra, ra, ra, ra, ra]⟩) (by kernel_rfl) ?_
  refine node_nu 2 [.sl 15 (.var 30) (.var 31), .int .i64 (.var 53), .int .i64 (.var 54)] [.sl 16 (.var 32) (.var 33), .int .i64 (.var 56), .int .i64 (.var 57)] hok.and (p := p 8) (hr.le 8) (p' := p 9) (hr.st 8) (x := r 8) (hr.va 8) rfl rfl (by intros; kernel_rfl) (by intros; kernel_rfl) rfl (by intros; kernel_rfl) (by intros; kernel_rfl) rfl (by kernel_rfl) ?_
  refine node_nu 2 [.sl 16 (.var 32) (.var 33), .int .i64 (.var 56), .int .i64 (.var 57)] [.sl 17 (.var 34) (.var 35), .int .i64 (.var 59), .int .i64 (.var 60)] hok.and (p := p 9) (hr.le 9) (p' := p 10) (hr.st 9) (x := r 9) (hr.va 9) rfl rfl (by intros; kernel_rfl) (by intros; kernel_rfl) rfl (by intros; kernel_rfl) (by intros; kernel_rfl) rfl (by kernel_rfl) ?_
  refine node_nu 2 [.sl 17 (.var 34) (.var 35), .int .i64 (.var 59), .int .i64 (.var 60)] [.sl 18 (.var 36) (.var 37), .int .i64 (.var 62), .int .i64 (.var 63)] hok.and (p := p 10) (hr.le 10) (p' := p 11) (hr.st 10) (x := r 10) (hr.va 10) rfl rfl (by intros; kernel_rfl) (by intros; kernel_rfl) rfl (by intros; kernel_rfl) (by intros; kernel_rfl) rfl (by kernel_rfl) ?_
  refine node_nu 2 [.sl 18 (.var 36) (.var 37), .int .i64 (.var 62), .int .i64 (.var 63)] [.sl 19 (.var 38) (.var 39), .int .i64 (.var 65), .int .i64 (.var 66)] hok.and (p := p 11) (hr.le 11) (p' := p 12) (hr.st 11) (x := r 11) (hr.va 11) rfl rfl (by intros; kernel_rfl) (by intros; kernel_rfl) rfl (by intros; kernel_rfl) (by intros; kernel_rfl) rfl (by kernel_rfl) ?_
  refine holds_env (ρ' := ⟨[0, 0, ((P 1).1 : Int), (P 1).2, ν 0, ((P 2).1 : Int), (P 2).2, ν 1, ((P 3).1 : Int), (P 3).2, (n : Int), (n : Int), ν 0, ν 1, 0, 0, 0, 0, 0, 0, 0, 0, 0, 0, 0, 0, 0, 0, 0, 0, ((p 0).1 : Int), (p 0).2, ((p 1).1 : Int), (p 1).2, r 0, ((p 2).1 : Int), (p 2).2, r 1, ((p 3).1 : Int), (p 3).2, r 2, ((p 4).1 : Int), (p 4).2, r 3, ((p 5).1 : Int), (p 5).2, r 4, ((p 6).1 : Int), (p 6).2, r 5, ((p 7).1 : Int), (p 7).2, r 6, ((p 8).1 : Int), (p 8).2, r 7, ((p 9).1 : Int), (p 9).2, r 8, ((p 10).1 : Int), (p 10).2, r 9, ((p 11).1 : Int), (p 11).2, r 10, ((p 12).1 : Int), (p 12).2, r 11], [], [], [bs.length, cap, bs.length, rc, bs.length, rc, bs.length, rc, bs.length, rc, M.length, mc, 0, 0, bs.length, rc, bs.length, rc, bs.length, rc, bs.length, rc, bs.length, rc, bs.length, rc, bs.length, rc, bs.length, rc, bs.length, rc, bs.length, rc, bs.length, rc, bs.length, rc, bs.length, rc], [a, ra, ra, ra, ra, ma, none, ra, ra, ra, ra, ra, ra, ra, ra, ra, ra, ra, ra, ra]⟩) (by kernel_rfl) ?_
  refine node_nu 2 [.sl 19 (.var 38) (.var 39), .int .i64 (.var 65), .int .i64 (.var 66)] [.sl 20 (.var 40) (.var 41), .int .i64 (.var 68), .int .i64 (.var 69)] hok.and (p := p 12) (hr.le 12) (p' := p 13) (hr.st 12) (x := r 12) (hr.va 12) rfl rfl (by intros; kernel_rfl) (by intros; kernel_rfl) rfl (by intros; kernel_rfl) (by intros; kernel_rfl) rfl (by kernel_rfl) ?_
  refine node_nu 2 [.sl 20 (.var 40) (.var 41), .int .i64 (.var 68), .int .i64 (.var 69)] [.sl 21 (.var 42) (.var 43), .int .i64 (.var 71), .int .i64 (.var 72)] hok.and (p := p 13) (hr.le 13) (p' := p 14) (hr.st 13) (x := r 13) (hr.va 13) rfl rfl (by intros; kernel_rfl) (by intros; kernel_rfl) rfl (by intros; kernel_rfl) (by intros; kernel_rfl) rfl (by kernel_rfl) ?_
  refine node_nu 2 [.sl 21 (.var 42) (.var 43), .int .i64 (.var 71), .int .i64 (.var 72)] [.sl 22 (.var 44) (.var 45), .int .i64 (.var 74), .int .i64 (.var 75)] hok.and (p := p 14) (hr.le 14) (p' := p 15) (hr.st 14) (x := r 14) (hr.va 14) rfl rfl (by intros; kernel_rfl) (by intros; kernel_rfl) rfl (by intros; kernel_rfl) (by intros; kernel_rfl) rfl (by kernel_rfl) ?_
  refine node_nu 2 [.sl 22 (.var 44) (.var 45), .int .i64 (.var 74), .int .i64 (.var 75)] [.sl 23 (.var 46) (.var 47), .int .i64 (.var 77), .int .i64 (.var 78)] hok.and (p := p 15) (hr.le 15) (p' := p 16) (hr.st 15) (x := r 15) (hr.va 15) rfl rfl (by intros; kernel_rfl) (by intros; kernel_rfl) rfl (by intros; kernel_rfl) (by intros; kernel_rfl) rfl (by kernel_rfl) ?_
  refine holds_env (ρ' := ⟨[0, 0, ((P 1).1 : Int), (P 1).2, ν 0, ((P 2).1 : Int), (P 2).2, ν 1, ((P 3).1 : Int), (P 3).2, (n : Int), (n : Int), ν 0, ν 1, 0, 0, 0, 0, 0, 0, 0, 0, 0, 0, 0, 0, 0, 0, 0, 0, ((p 0).1 : Int), (p 0).2, ((p 1).1 : Int), (p 1).2, r 0, ((p 2).1 : Int), (p 2).2, r 1, ((p 3).1 : Int), (p 3).2, r 2, ((p 4).1 : Int), (p 4).2, r 3, ((p 5).1 : Int), (p 5).2, r 4, ((p 6).1 : Int), (p 6).2, r 5, ((p 7).1 : Int), (p 7).2, r 6, ((p 8).1 : Int), (p 8).2, r 7, ((p 9).1 : Int), (p 9).2, r 8, ((p 10).1 : Int), (p 10).2, r 9, ((p 11).1 : Int), (p 11).2, r 10, ((p 12).1 : Int), (p 12).2, r 11, ((p 13).1 : Int), (p 13).2, r 12, ((p 14).1 : Int), (p 14).2, r 13, ((p 15).1 : Int), (p 15).2, r 14, ((p 16).1 : Int), (p 16).2, r 15], [], [], [bs.length, cap, bs.length, rc, bs.length, rc, bs.length, rc, bs.length, rc, M.length, mc, 0, 0, bs.length, rc, bs.length, rc, bs.length, rc, bs.length, rc, bs.length, rc, bs.length, rc, bs.length, rc, bs.length, rc, bs.length, rc, bs.length, rc, bs.length, rc, bs.length, rc, bs.length, rc, bs.length, rc, bs.length, rc, bs.length, rc, bs.length, rc], [a, ra, ra, ra, ra, ma, none, ra, ra, ra, ra, ra, ra, ra, ra, ra, ra, ra, ra, ra, ra, ra, ra, ra]⟩) (by kernel_rfl) ?_
  obtain ⟨sn, esn⟩ : ∃ sn, sn = cnt 16 (r 16) := ⟨_, rfl⟩
  have hs7 := upN_cnt (most := 16) (by decide) (r 16)
  rw [← esn] at hs7
  have hs17 : sn ≤ 17 := hs7.2
  refine node_up 2 [.sl 23 (.var 46) (.var 47), .int .i64 (.var 77), .int .i64 (.var 78)] [.sl 24 (.var 48) (.var 49), .int .i64 (.var 80), .int .i64 (.var 81)] (by decide) hok.and (p := p 16) (hr.le 16) (p' := p 17) (hr.st 16) (x := r 16) (hr.va 16) hs7.1 rfl rfl (by intros; kernel_rfl) (by intros; kernel_rfl) rfl (by intros; kernel_rfl) (by intros; kernel_rfl) rfl (by kernel_rfl) ?_
  obtain ⟨q, eq⟩ : ∃ q, q = 3 + n + 17 := ⟨_, rfl⟩
  have hpq : p 17 = P q := by rw [ep, eq]
  rw [hpq]
  obtain ⟨R1, eR1⟩ : ∃ R1, R1 = R.and (mrow ma mc M) := ⟨_, rfl⟩
  have hok1 : RdOk R1 ra rc bs := by rw [eR1]; exact hok.and
  rw [← eR1]
  refine holds_env (ρ' := ⟨[0, 0, ((P 1).1 : Int), (P 1).2, ν 0, ((P 2).1 : Int), (P 2).2, ν 1, ((P 3).1 : Int), (P 3).2, (n : Int), (n : Int), ν 0, ν 1, 0, 0, 0, 0, 0, 0, 0, 0, 0, 0, 0, 0, 0, 0, 0, 0, ((p 0).1 : Int), (p 0).2, ((p 1).1 : Int), (p 1).2, r 0, ((p 2).1 : Int), (p 2).2, r 1, ((p 3).1 : Int), (p 3).2, r 2, ((p 4).1 : Int), (p 4).2, r 3, ((p 5).1 : Int), (p 5).2, r 4, ((p 6).1 : Int), (p 6).2, r 5, ((p 7).1 : Int), (p 7).2, r 6, ((p 8).1 : Int), (p 8).2, r 7, ((p 9).1 : Int), (p 9).2, r 8, ((p 10).1 : Int), (p 10).2, r 9, ((p 11).1 : Int), (p 11).2, r 10, ((p 12).1 : Int), (p 12).2, r 11, ((p 13).1 : Int), (p 13).2, r 12, ((p 14).1 : Int), (p 14).2, r 13, ((p 15).1 : Int), (p 15).2, r 14, ((p 16).1 : Int), (p 16).2, r 15, ((P q).1 : Int), (P q).2, (sn : Int)], [], [], [bs.length, cap, bs.length, rc, bs.length, rc, bs.length, rc, bs.length, rc, M.length, mc, 0, 0, bs.length, rc, bs.length, rc, bs.length, rc, bs.length, rc, bs.length, rc, bs.length, rc, bs.length, rc, bs.length, rc, bs.length, rc, bs.length, rc, bs.length, rc, bs.length, rc, bs.length, rc, bs.length, rc, bs.length, rc, bs.length, rc, bs.length, rc, bs.length, rc], [a, ra, ra, ra, ra, ma, none, ra, ra, ra, ra, ra, ra, ra, ra, ra, ra, ra, ra, ra, ra, ra, ra, ra, ra]⟩) (by kernel_rfl) ?_
  refine loop_i (DsI w R1 P ν (ν 0) (ν 1) [r 0, r 1, r 2, r 3, r 4, r 5, r 6, r 7, r 8, r 9, r 10, r 11, r 12, r 13, r 14, r 15] q sn M.length mc bs.length rc ma ra) (fun vs => sn - (vs.i.headD 0).toNat) (fun ids w2 hp hf => ⟨(R1.and (ksR [])).and (srow none 0 []), ⟨⟨⟨hf.x, fun e he => by cases he⟩, srow_nil _ _⟩, fun z hz => by
    rcases hz with (hz | ⟨e, he, _⟩) | hz
    · exact hf.sep z hz
    · cases he
    · exact absurd hz (srow_none _ z)⟩, 0, none, 0, [], Nat.zero_le _, rfl, ⟨fun i j e e' _ h => by simp at h, fun e he => by cases he⟩, (fun z ⟨e, he, _⟩ => by cases he), (fun z hz => absurd hz (srow_none _ z)), (by intros; kernel_rfl), rfl⟩) ?_
  rintro vs hx' hcnt2 ⟨j, sa, sc, ds, hj, hdm, hdj, hapk, haps, rfl, rfl⟩
  have hdl : ds.length = j := by have := congrArg List.length hdm; rwa [List.length_map, sesL_len] at this
  obtain ⟨u, eu⟩ : ∃ u, u = sesP ν q j := ⟨_, rfl⟩
  rw [← eu] at hcnt2 ⊢
  refine holds_env (ρ' := ⟨[0, 0, ((P 1).1 : Int), (P 1).2, ν 0, ((P 2).1 : Int), (P 2).2, ν 1, ((P 3).1 : Int), (P 3).2, (n : Int), (n : Int), ν 0, ν 1, 0, 0, 0, 0, 0, 0, 0, 0, 0, 0, 0, 0, 0, 0, 0, 0, ((p 0).1 : Int), (p 0).2, ((p 1).1 : Int), (p 1).2, r 0, ((p 2).1 : Int), (p 2).2, r 1, ((p 3).1 : Int), (p 3).2, r 2, ((p 4).1 : Int), (p 4).2, r 3, ((p 5).1 : Int), (p 5).2, r 4, ((p 6).1 : Int), (p 6).2, r 5, ((p 7).1 : Int), (p 7).2, r 6, ((p 8).1 : Int), (p 8).2, r 7, ((p 9).1 : Int), (p 9).2, r 8, ((p 10).1 : Int), (p 10).2, r 9, ((p 11).1 : Int), (p 11).2, r 10, ((p 12).1 : Int), (p 12).2, r 11, ((p 13).1 : Int), (p 13).2, r 12, ((p 14).1 : Int), (p 14).2, r 13, ((p 15).1 : Int), (p 15).2, r 14, ((p 16).1 : Int), (p 16).2, r 15, ((P q).1 : Int), (P q).2, (sn : Int), (j : Int), ν 0, ν 1, r 0, r 1, r 2, r 3, r 4, r 5, r 6, r 7, r 8, r 9, r 10, r 11, r 12, r 13, r 14, r 15, ((P u).1 : Int), (P u).2], [], [], [bs.length, cap, bs.length, rc, bs.length, rc, bs.length, rc, bs.length, rc, M.length, mc, 0, 0, bs.length, rc, bs.length, rc, bs.length, rc, bs.length, rc, bs.length, rc, bs.length, rc, bs.length, rc, bs.length, rc, bs.length, rc, bs.length, rc, bs.length, rc, bs.length, rc, bs.length, rc, bs.length, rc, bs.length, rc, bs.length, rc, bs.length, rc, bs.length, rc, M.length, mc, ds.length, sc, bs.length, rc], [a, ra, ra, ra, ra, ma, none, ra, ra, ra, ra, ra, ra, ra, ra, ra, ra, ra, ra, ra, ra, ra, ra, ra, ra, ma, sa, ra]⟩) (by kernel_rfl) ?_
  obtain ⟨T, eT⟩ : ∃ T, T = (R1.and (ksR ds)).and (srow sa sc ds) := ⟨_, rfl⟩
  have hokT : RdOk T ra rc bs := by rw [eT]; exact hok1.and.and
  rw [← eT]
  by_cases hlt : j < sn
  case' neg =>
    refine br_F (decide ((j : Int) < (sn : Int))) (by kernel_rfl) (decide_eq_false (by omega)) ?_
    obtain rfl : j = sn := by omega
    have hu : u = enD ν := by rw [eu, eq, esn, er, en]; rfl
    obtain ⟨B, eB⟩ : ∃ B, B = doneB bs.length (P u).1 (P u).2 := ⟨_, rfl⟩
    rw [← hu, ← eB] at hE2
    refine node_at1 2 162 ⟨[((P u).1 : Int), B, B], [], [], [bs.length, rc], [ra]⟩ (us := rcP ra rc bs (P u)) (us' := rcells ra rc bs (P u).1 B) (V := .int .i64 B) (cs' := [.sl 28 (.var 56) (.var 57), .int .i64 (.var 104), .int .i64 (.var 105)]) (fun w b h => by rw [eB]; exact rdone_any b ra rc bs (P u).1 (P u).2 w h) (by intros; kernel_rfl) rfl (by intros; kernel_rfl) rfl (by intros; kernel_rfl) (by intros; kernel_rfl) rfl (by kernel_rfl) oneNil ?_
    by_cases hB : B = 0
    case' neg => exact br_T (B != 0) (by kernel_rfl) (by simpa using hB) (bad (by rw [hE2, if_pos hB]) (by intros; kernel_rfl))
    refine br_F (B != 0) (by kernel_rfl) (by simpa using hB) ?_
    obtain ⟨D, eD⟩ : ∃ D : Im, D = ⟨ν 0, M, ν 1, [r 0, r 1, r 2, r 3, r 4, r 5, r 6, r 7, r 8, r 9, r 10, r 11, r 12, r 13, r 14, r 15], ds.map SE.s⟩ := ⟨_, rfl⟩
    have hDi : imD ν = D := by
      rw [eD, hdm, eM]; unfold imD
      rw [← en, show ν (3 + n + 16) = r 16 from by rw [er], ← esn, ← eq]
      congr 1
      unfold r16
      rw [er]
    rw [hDi] at hE2 hD2
    rw [if_neg (fun z => z hB)] at hE2
    have hM64 : ∀ x ∈ M, I64 x := by
      rw [eM]; unfold nuL; intro x hx
      obtain ⟨i, _, rfl⟩ := List.mem_map.1 hx
      exact hR.fit _
    have at_ : ∀ {w2 : World}, T.X w2 → ImAt w2 D ma sa ds := fun h => by
      rw [eT] at h
      rw [eD]
      refine ⟨rfl, Ints.of_cells (show M.length ≤ _ by omega) hM64 ?_, tabR_at ⟨h.1.2, h.2⟩, rfl⟩
      have := h.1.1
      rw [eR1] at this
      exact rw_cells this.2
    have hVC : imV D ma mc sa sc = .agg ([.int .i64 (ν 0), .slice ma M.length mc, .int .i64 (ν 1), .int .i64 (r 0), .int .i64 (r 1), .int .i64 (r 2), .int .i64 (r 3), .int .i64 (r 4), .int .i64 (r 5), .int .i64 (r 6), .int .i64 (r 7), .int .i64 (r 8), .int .i64 (r 9), .int .i64 (r 10), .int .i64 (r 11), .int .i64 (r 12), .int .i64 (r 13), .int .i64 (r 14), .int .i64 (r 15), .slice sa ds.length sc] : List Value).toArray := by rw [eD]; unfold imV imC; simp only [List.length_map]; rfl
    refine node_P ⟨[], [validI D], [], [], []⟩ #[imV D ma mc sa sc] (.bool (validI D)) (by rw [hVC]; intros; kernel_rfl) (by intros; kernel_rfl) (by kernel_rfl) (by kernel_rfl) (by kernel_rfl) oneNil (fun ids w2 hp hf => xvalid_any D ma mc sa sc ds w2 (at_ hf.x) (by omega)) ?_
    rcases Bool.eq_false_or_eq_true (validI D) with hv | hv
    case' inr => exact br_T (!(validI D)) (by kernel_rfl) (by rw [hv]; rfl) (bad (by rw [hE2, hv]; rfl) (by intros; kernel_rfl))
    refine br_F (!(validI D)) (by kernel_rfl) (by rw [hv]; rfl) ?_
    have hE0 : E = 0 := by rw [hE2, hv]; rfl
    rw [if_pos hE0] at hD2
    rw [hD2, hE0]
    intro ids w2 hp hf
    refine ⟨ma, mc, sa, sc, ds, by rw [eD], ?_, hdj, ?_, ?_, ?_, hf.chg.below⟩
    · rw [hVC]; kernel_rfl
    all_goals have hX := hf.x
    all_goals rw [eT, eR1] at hX
    all_goals have hcl : ∀ z, (HX.cl ma (D.mem.map (Value.int .i64))).F z → (mrow ma mc M).F z := by rw [eD]; exact (rw_cl hX.1.1.2).2
    · intro z hz hz2
      have h2 : R1.F z := by rw [eR1]; exact .inr (hcl z hz2)
      exact hz.elim (fun y => (hapk z y).2 h2) (fun y => (haps z y).2 h2)
    · refine ⟨?_, ⟨hX.1.2, hX.2⟩⟩
      rw [eD]; exact (rw_cl hX.1.1.2).1
    · rintro z (hz | hz | hz)
      · exact (hap z (hcl z hz)).1
      · exact (hapk z hz).1
      · exact (haps z hz).1
  refine br_T (decide ((j : Int) < (sn : Int))) (by kernel_rfl) (decide_eq_true (by omega)) ?_
  obtain ⟨kn, ekn⟩ : ∃ kn, kn = cnt 8 (ν (u + 2)) := ⟨_, rfl⟩
  have hk7 := upN_cnt (most := 8) (by decide) (ν (u + 2))
  rw [← ekn] at hk7
  have hk9 : kn ≤ 9 := hk7.2
  refine node_nu 2 [.sl 27 (.var 54) (.var 55), .int .i64 (.var 102), .int .i64 (.var 103)] [.sl 28 (.var 56) (.var 57), .int .i64 (.var 104), .int .i64 (.var 105)] hokT (p := P u) (hR.le _) (p' := P (u + 1)) (hR.st _) (x := ν u) (hR.va _) rfl rfl (by intros; kernel_rfl) (by intros; kernel_rfl) rfl (by intros; kernel_rfl) (by intros; kernel_rfl) rfl (by kernel_rfl) ?_
  refine node_nu 2 [.sl 28 (.var 56) (.var 57), .int .i64 (.var 104), .int .i64 (.var 105)] [.sl 29 (.var 58) (.var 59), .int .i64 (.var 107), .int .i64 (.var 108)] hokT (p := P (u + 1)) (hR.le _) (p' := P (u + 2)) (hR.st _) (x := ν (u + 1)) (hR.va _) rfl rfl (by intros; kernel_rfl) (by intros; kernel_rfl) rfl (by intros; kernel_rfl) (by intros; kernel_rfl) rfl (by kernel_rfl) ?_
  refine node_up 2 [.sl 29 (.var 58) (.var 59), .int .i64 (.var 107), .int .i64 (.var 108)] [.sl 30 (.var 60) (.var 61), .int .i64 (.var 110), .int .i64 (.var 111)] (by decide) hokT (p := P (u + 2)) (hR.le _) (p' := P (u + 3)) (hR.st _) (x := ν (u + 2)) (hR.va _) hk7.1 rfl rfl (by intros; kernel_rfl) (by intros; kernel_rfl) rfl (by intros; kernel_rfl) (by intros; kernel_rfl) rfl (by kernel_rfl) ?_
  refine holds_env (ρ' := ⟨[0, 0, ((P 1).1 : Int), (P 1).2, ν 0, ((P 2).1 : Int), (P 2).2, ν 1, ((P 3).1 : Int), (P 3).2, (n : Int), (n : Int), ν 0, ν 1, 0, 0, 0, 0, 0, 0, 0, 0, 0, 0, 0, 0, 0, 0, 0, 0, ((p 0).1 : Int), (p 0).2, ((p 1).1 : Int), (p 1).2, r 0, ((p 2).1 : Int), (p 2).2, r 1, ((p 3).1 : Int), (p 3).2, r 2, ((p 4).1 : Int), (p 4).2, r 3, ((p 5).1 : Int), (p 5).2, r 4, ((p 6).1 : Int), (p 6).2, r 5, ((p 7).1 : Int), (p 7).2, r 6, ((p 8).1 : Int), (p 8).2, r 7, ((p 9).1 : Int), (p 9).2, r 8, ((p 10).1 : Int), (p 10).2, r 9, ((p 11).1 : Int), (p 11).2, r 10, ((p 12).1 : Int), (p 12).2, r 11, ((p 13).1 : Int), (p 13).2, r 12, ((p 14).1 : Int), (p 14).2, r 13, ((p 15).1 : Int), (p 15).2, r 14, ((p 16).1 : Int), (p 16).2, r 15, ((P q).1 : Int), (P q).2, (sn : Int), (j : Int), ν 0, ν 1, r 0, r 1, r 2, r 3, r 4, r 5, r 6, r 7, r 8, r 9, r 10, r 11, r 12, r 13, r 14, r 15, ((P u).1 : Int), (P u).2, ((P (u + 1)).1 : Int), (P (u + 1)).2, ν u, ((P (u + 2)).1 : Int), (P (u + 2)).2, ν (u + 1), ((P (u + 3)).1 : Int), (P (u + 3)).2, (kn : Int)], [], [], [bs.length, cap, bs.length, rc, bs.length, rc, bs.length, rc, bs.length, rc, M.length, mc, 0, 0, bs.length, rc, bs.length, rc, bs.length, rc, bs.length, rc, bs.length, rc, bs.length, rc, bs.length, rc, bs.length, rc, bs.length, rc, bs.length, rc, bs.length, rc, bs.length, rc, bs.length, rc, bs.length, rc, bs.length, rc, bs.length, rc, bs.length, rc, bs.length, rc, M.length, mc, ds.length, sc, bs.length, rc, bs.length, rc, bs.length, rc, bs.length, rc], [a, ra, ra, ra, ra, ma, none, ra, ra, ra, ra, ra, ra, ra, ra, ra, ra, ra, ra, ra, ra, ra, ra, ra, ra, ma, sa, ra, ra, ra, ra]⟩) (by kernel_rfl) ?_
  refine loop_i (DkI w T P ν (u + 3) kn (ν u) (ν (u + 1)) bs.length rc ra) (fun vs => kn - (vs.i.headD 0).toNat) (fun ids w2 hp hf => ⟨T.and (krow none 0 []), ⟨⟨hf.x, krow_nil _ _⟩, fun z hz => hz.elim (fun y => hf.sep z y) (fun y => absurd y (krow_none _ z))⟩, 0, none, 0, Nat.zero_le _, (fun z hz => absurd hz (krow_none _ z)), (by intros; kernel_rfl), rfl⟩) ?_
  rintro vs hx' hcnt3 ⟨i, ka, kc, hi, hapj, rfl, rfl⟩
  obtain ⟨l, el⟩ : ∃ l, l = kpL ν (u + 3) i := ⟨_, rfl⟩
  have hll : l.length = i := by rw [el, kpL_len]
  rw [← el] at hapj hcnt3 ⊢
  obtain ⟨v, ev⟩ : ∃ v, v = u + 3 + 4 * i := ⟨_, rfl⟩
  rw [← ev] at hcnt3 ⊢
  refine holds_env (ρ' := ⟨[0, 0, ((P 1).1 : Int), (P 1).2, ν 0, ((P 2).1 : Int), (P 2).2, ν 1, ((P 3).1 : Int), (P 3).2, (n : Int), (n : Int), ν 0, ν 1, 0, 0, 0, 0, 0, 0, 0, 0, 0, 0, 0, 0, 0, 0, 0, 0, ((p 0).1 : Int), (p 0).2, ((p 1).1 : Int), (p 1).2, r 0, ((p 2).1 : Int), (p 2).2, r 1, ((p 3).1 : Int), (p 3).2, r 2, ((p 4).1 : Int), (p 4).2, r 3, ((p 5).1 : Int), (p 5).2, r 4, ((p 6).1 : Int), (p 6).2, r 5, ((p 7).1 : Int), (p 7).2, r 6, ((p 8).1 : Int), (p 8).2, r 7, ((p 9).1 : Int), (p 9).2, r 8, ((p 10).1 : Int), (p 10).2, r 9, ((p 11).1 : Int), (p 11).2, r 10, ((p 12).1 : Int), (p 12).2, r 11, ((p 13).1 : Int), (p 13).2, r 12, ((p 14).1 : Int), (p 14).2, r 13, ((p 15).1 : Int), (p 15).2, r 14, ((p 16).1 : Int), (p 16).2, r 15, ((P q).1 : Int), (P q).2, (sn : Int), (j : Int), ν 0, ν 1, r 0, r 1, r 2, r 3, r 4, r 5, r 6, r 7, r 8, r 9, r 10, r 11, r 12, r 13, r 14, r 15, ((P u).1 : Int), (P u).2, ((P (u + 1)).1 : Int), (P (u + 1)).2, ν u, ((P (u + 2)).1 : Int), (P (u + 2)).2, ν (u + 1), ((P (u + 3)).1 : Int), (P (u + 3)).2, (kn : Int), (i : Int), ((P v).1 : Int), (P v).2, ν u, ν (u + 1)], [], [], [bs.length, cap, bs.length, rc, bs.length, rc, bs.length, rc, bs.length, rc, M.length, mc, 0, 0, bs.length, rc, bs.length, rc, bs.length, rc, bs.length, rc, bs.length, rc, bs.length, rc, bs.length, rc, bs.length, rc, bs.length, rc, bs.length, rc, bs.length, rc, bs.length, rc, bs.length, rc, bs.length, rc, bs.length, rc, bs.length, rc, bs.length, rc, bs.length, rc, M.length, mc, ds.length, sc, bs.length, rc, bs.length, rc, bs.length, rc, bs.length, rc, bs.length, rc, l.length, kc], [a, ra, ra, ra, ra, ma, none, ra, ra, ra, ra, ra, ra, ra, ra, ra, ra, ra, ra, ra, ra, ra, ra, ra, ra, ma, sa, ra, ra, ra, ra, ra, ka]⟩) (by kernel_rfl) ?_
  by_cases hlti : i < kn
  · refine br_T (decide ((i : Int) < (kn : Int))) (by kernel_rfl) (decide_eq_true (by omega)) ?_
    obtain ⟨x, ex⟩ : ∃ x, x = kpO ν v := ⟨_, rfl⟩
    have hnx : l ++ [x] = kpL ν (u + 3) (i + 1) := by rw [el, ex, ev]; unfold kpL; rw [range_snoc]
    have hv4 : v + 4 = u + 3 + 4 * (i + 1) := by omega
    have hwk : IntKind.i64.wrap ((i : Int) + 1) = ((i + 1 : Nat) : Int) := by rw [wrap_i64 (by omega)]; omega
    refine par_i ?_ ?_
    all_goals
      refine node_nu 2 [.sl 31 (.var 62) (.var 63), .int .i64 (.var 114), .int .i64 (.var 115)] [.sl 33 (.var 66) (.var 67), .int .i64 (.var 118), .int .i64 (.var 119)] hokT.and (p := P v) (hR.le _) (p' := P (v + 1)) (hR.st _) (x := ν v) (hR.va _) rfl rfl (by intros; kernel_rfl) (by intros; kernel_rfl) rfl (by intros; kernel_rfl) (by intros; kernel_rfl) rfl (by kernel_rfl) ?_
      try refine par_i ?_ ?_
    all_goals
      refine node_nu 2 [.sl 33 (.var 66) (.var 67), .int .i64 (.var 118), .int .i64 (.var 119)] [.sl 34 (.var 68) (.var 69), .int .i64 (.var 121), .int .i64 (.var 122)] hokT.and (p := P (v + 1)) (hR.le _) (p' := P (v + 2)) (hR.st _) (x := ν (v + 1)) (hR.va _) rfl rfl (by intros; kernel_rfl) (by intros; kernel_rfl) rfl (by intros; kernel_rfl) (by intros; kernel_rfl) rfl (by kernel_rfl) ?_
      try refine par_i ?_ ?_
    all_goals
      refine node_nu 2 [.sl 34 (.var 68) (.var 69), .int .i64 (.var 121), .int .i64 (.var 122)] [.sl 35 (.var 70) (.var 71), .int .i64 (.var 124), .int .i64 (.var 125)] hokT.and (p := P (v + 2)) (hR.le _) (p' := P (v + 3)) (hR.st _) (x := ν (v + 2)) (hR.va _) rfl rfl (by intros; kernel_rfl) (by intros; kernel_rfl) rfl (by intros; kernel_rfl) (by intros; kernel_rfl) rfl (by kernel_rfl) ?_
      try refine par_i ?_ ?_
    all_goals
      refine node_nu 2 [.sl 35 (.var 70) (.var 71), .int .i64 (.var 124), .int .i64 (.var 125)] [.sl 36 (.var 72) (.var 73), .int .i64 (.var 127), .int .i64 (.var 128)] hokT.and (p := P (v + 3)) (hR.le _) (p' := P (v + 4)) (hR.st _) (x := ν (v + 3)) (hR.va _) rfl rfl (by intros; kernel_rfl) (by intros; kernel_rfl) rfl (by intros; kernel_rfl) (by intros; kernel_rfl) rfl (by kernel_rfl) ?_
      try refine par_i ?_ ?_
    all_goals
      refine node_kpush rfl rfl ka kc l x 4 (by intros; kernel_rfl) (by intros; kernel_rfl) rfl (by rw [ex]; intros; kernel_rfl) hapj (by omega) (by intros; kernel_rfl) (by kernel_rfl) (by kernel_rfl) (by intros; kernel_rfl) ?_
      intro ka' kc' hap'
      have hl2 : (l ++ [x]).length = l.length + 1 := by rw [List.length_append]; rfl
      refine again_V ⟨[((i + 1 : Nat) : Int), ((P (v + 4)).1 : Int), (P (v + 4)).2, ν u, ν (u + 1)], [], [], [bs.length, rc, (l ++ [x]).length, kc'], [ra, ka']⟩ rfl (fun ids => Eq.trans (b := ⟨[IntKind.i64.wrap ((i : Int) + 1), ((P (v + 4)).1 : Int), (P (v + 4)).2, ν u, ν (u + 1)], [], [], [bs.length, rc, l.length + 1, kc'], [ra, ka']⟩) (by kernel_rfl) (by rw [hwk, hl2])) _ (fun w2 ids hf => ⟨hf.x, hf.sep⟩) ⟨⟨i + 1, ka', kc', hlti, by rw [← hnx]; exact hap', by rw [← hnx, ← hv4], by rw [← hnx]⟩, ?_⟩
      show kn - (((i + 1 : Nat) : Int)).toNat < kn - ((i : Int)).toNat
      omega
  refine br_F (decide ((i : Int) < (kn : Int))) (by kernel_rfl) (decide_eq_false (by omega)) ?_
  obtain rfl : kn = i := by omega
  obtain ⟨e', ee'⟩ : ∃ e' : SE, e' = ⟨⟨ν u, ν (u + 1), l⟩, ka, kc⟩ := ⟨_, rfl⟩
  have hkR : kRow e' = krow ka kc l := by rw [ee']; rfl
  have hTs : ∀ z, (R1.F z ∨ (ksR ds).F z ∨ (srow sa sc ds).F z) → T.F z := fun z hz => by
    rw [eT]
    rcases hz with hz | hz | hz
    · exact .inl (.inl hz)
    · exact .inl (.inr hz)
    · exact .inr hz
  have hsn : ∀ z, (ksR (ds ++ [e'])).F z → (ksR ds).F z ∨ (krow ka kc l).F z := fun z hz => by
    rw [ksR_snoc, hkR] at hz; exact hz
  refine holds_eq (show _ = (R1.and (ksR (ds ++ [e']))).and (srow sa sc ds) from by rw [eT, HX.and_right_comm, ksR_snoc, hkR, HX.and_assoc R1]) ?_
  have haps2 : Apart w (R1.and (ksR (ds ++ [e']))) (srow sa sc ds) := fun z hz => ⟨(haps z hz).1, fun y => by
    rcases y with y | y
    · exact (haps z hz).2 y
    · rcases hsn z y with y | y
      · obtain ⟨x, hx, hy⟩ := y
        exact hdj.tab x hx z hy hz
      · exact (hapj z y).2 (hTs z (.inr (.inr hz)))⟩
  refine node_spush rfl rfl sa sc ds e' 4 (by intros; kernel_rfl) (by intros; kernel_rfl) rfl (by rw [ee']; intros; kernel_rfl) haps2 (by omega) (by intros; kernel_rfl) (by kernel_rfl) (by kernel_rfl) (by intros; kernel_rfl) ?_
  intro sa' sc' hap'
  have hwj : IntKind.i64.wrap ((j : Int) + 1) = ((j + 1 : Nat) : Int) := by rw [wrap_i64 (by omega)]; omega
  have hl2 : (ds ++ [e']).length = ds.length + 1 := by rw [List.length_append]; rfl
  have hse : sesP ν q (j + 1) = v := by
    show sesE ν (sesP ν q j) = _
    rw [← eu, ev, ekn]; rfl
  refine again_V ⟨[((j + 1 : Nat) : Int), ν 0, ν 1, r 0, r 1, r 2, r 3, r 4, r 5, r 6, r 7, r 8, r 9, r 10, r 11, r 12, r 13, r 14, r 15, ((P v).1 : Int), (P v).2], [], [], [M.length, mc, (ds ++ [e']).length, sc', bs.length, rc], [ma, sa', ra]⟩ rfl (fun ids => Eq.trans (b := ⟨[IntKind.i64.wrap ((j : Int) + 1), ν 0, ν 1, r 0, r 1, r 2, r 3, r 4, r 5, r 6, r 7, r 8, r 9, r 10, r 11, r 12, r 13, r 14, r 15, ((P v).1 : Int), (P v).2], [], [], [M.length, mc, ds.length + 1, sc', bs.length, rc], [ma, sa', ra]⟩) (by kernel_rfl) (by rw [hwj, hl2])) _ (fun w2 ids hf => ⟨hf.x, hf.sep⟩) ⟨⟨j + 1, sa', sc', ds ++ [e'], hlt, ?_, hdj.snoc (fun z hz hF => ?_) (fun z h1 h2 hF => (hap' z ⟨h1, h2⟩).2 (.inr hF)), ?_, fun z hz => ⟨(hap' z hz).1, fun y => (hap' z hz).2 (.inl y)⟩, by rw [hse]; rfl, rfl⟩, ?_⟩
  · rw [List.map_append, hdm]
    unfold sesL
    rw [range_snoc, ← eu]
    congr 1
    rw [ee', el, ekn]; rfl
  · rw [hkR] at hz
    exact (hapj z hz).2 (hTs z (.inr (.inl hF)))
  · intro z hz
    rcases hsn z hz with y | y
    · exact hapk z y
    · exact ⟨(hapj z y).1, fun h => (hapj z y).2 (hTs z (.inl h))⟩
  · show sn - (((j + 1 : Nat) : Int)).toNat < sn - ((j : Int)).toNat
    omega
end Go.Proofs.Ytfjiolgdcphjhaa

namespace Go.Proofs.Ytfjiolgdcphjhaa
open Go.ChangeShapes Go.WideShapes Go.ChangeAt Go.RowKit Go.Syn Go.Eng
set_option linter.unusedVariables false
set_option linter.unusedSimpArgs false
set_option maxRecDepth 100000
def KF (t : List SsD) : Prop := ∀ s ∈ t, ∀ k ∈ s.kept, I64 k.re ∧ I64 k.im
theorem KF.nil : KF [] := fun s h => by cases h
theorem KF.ask {t : List SsD} (h : KF t) (sess seq ack : Int) : KF (askV t sess seq ack).t := by
  have hT : KF (tabS t sess) := fun s hs k hk => by
    unfold tabS at hs
    split at hs
    · exact h s hs k hk
    · rcases insAt_mem.1 hs with q | q
      · exact h s q k hk
      · rw [q] at hk; cases hk
  rcases ask_cases t sess seq ack with ⟨_, _, e⟩ | ⟨_, s, hs, _, _, _, e⟩
  · rw [e]; exact h
  · rw [e, askS_t]
    intro x hx k hk
    rcases List.mem_or_eq_of_mem_set hx with q | q
    · exact hT x q k hk
    · rw [q] at hk
      exact hT s (List.mem_of_getElem? hs) k (List.mem_filter.1 hk).1
theorem KF.keep {t : List SsD} (h : KF t) (sess seq k re im : Int) (h1 : I64 re) (h2 : I64 im) : KF (keepV t sess seq k re im) := by
  unfold keepV
  split
  · exact h
  · cases hs : t[posI (nosT t) sess]? with
    | none => exact h
    | some s =>
      dsimp only
      split
      · exact h
      · intro x hx kk hk
        rcases List.mem_or_eq_of_mem_set hx with q | q
        · exact h x q kk hk
        · rw [q] at hk
          rcases insAt_mem.1 hk with z | z
          · exact h s (List.mem_of_getElem? hs) kk z
          · rw [z]; exact ⟨h1, h2⟩
theorem fit64 {a b : Int} (h : fitB a b = true) : I64 a ∧ I64 b := by
  unfold fitB at h
  have := of_decide_eq_true h
  unfold I64; omega
theorem apply64 {xs : List Int} (hr : xs.length = 16) (o : OpD) : I64 (applyM xs o).2.2.1 ∧ I64 (applyM xs o).2.2.2 := by
  have z : I64 0 ∧ I64 0 := by unfold I64; omega
  unfold applyM
  split
  · rename_i hc
    simp only [Bool.and_eq_true] at hc
    obtain ⟨_, r12, _⟩ := (opB_iff _).1 hc.2
    split
    · exact fit64 (valid_reg hc.1 _ (by omega))
    · split
      · rename_i hf
        exact fit64 hf
      · exact z
  · exact z
theorem KF.run {I : Im} (h : KF I.tb) (hr : I.regs.length = 16) (c : CmD) : KF (runV I c).i.tb := by
  unfold runV
  split
  · exact h.ask _ _ _
  · obtain ⟨h1, h2⟩ := apply64 hr c.op
    exact (h.ask _ _ _).keep _ _ _ _ _ h1 h2
theorem KF.all {cs : List CmD} : ∀ {p : Im × List AnD}, KF p.1.tb → p.1.regs.length = 16 → KF (cs.foldl stepV p).1.tb := by
  induction cs with
  | nil => intro p h _; exact h
  | cons c r ih =>
    intro p h hr
    exact ih (p := stepV p c) (h.run hr c) (runV_len c hr)
theorem rgs_64 {l : List Int} (hl : l.length = 16) (h : validL l = true) : ∀ x ∈ rgs l, I64 x := by
  intro x hx
  unfold rgs at hx
  simp only [List.mem_cons, List.not_mem_nil, or_false] at hx
  have v : ∀ i, i < 8 → I64 (rg l (2 * i)) ∧ I64 (rg l (2 * i + 1)) := fun i hi => fit64 (valid_reg h i (by omega))
  have v0 := v 0 (by decide)
  have v1 := v 1 (by decide)
  have v2 := v 2 (by decide)
  have v3 := v 3 (by decide)
  have v4 := v 4 (by decide)
  have v5 := v 5 (by decide)
  have v6 := v 6 (by decide)
  have v7 := v 7 (by decide)
  rcases hx with rfl | rfl | rfl | rfl | rfl | rfl | rfl | rfl | rfl | rfl | rfl | rfl | rfl | rfl | rfl | rfl
  · exact v0.1
  · exact v0.2
  · exact v1.1
  · exact v1.2
  · exact v2.1
  · exact v2.2
  · exact v3.1
  · exact v3.2
  · exact v4.1
  · exact v4.2
  · exact v5.1
  · exact v5.2
  · exact v6.1
  · exact v6.2
  · exact v7.1
  · exact v7.2
theorem NFit.of {I : Im} (h : imOk I) (hk : KF I.tb) : NFit I := by
  intro x hx
  obtain ⟨hv, hr, hm⟩ := h
  have hf := hv.fit
  unfold numsI at hx
  simp only [List.mem_append, List.mem_cons, List.not_mem_nil, or_false, List.mem_flatMap] at hx
  have e1 := hv.ep0
  have e2 := hv.ep1
  have s1 := hv.sl0
  have s2 := hv.sl1
  rcases hx with (((( rfl | rfl | rfl) | hx) | hx) | rfl) | ⟨s, hs, hx⟩
  · unfold I64; omega
  · unfold I64; omega
  · unfold I64; omega
  · exact hm x hx
  · exact rgs_64 hr hv.regs x hx
  · unfold I64; omega
  · have hse := hv.tb.each s hs
    have a1 := hse.no1
    have a2 := hse.no2
    have a3 := hse.ack1
    have a4 := hse.ack2
    have a5 := hse.len
    unfold sesN at hx
    simp only [List.mem_append, List.mem_cons, List.not_mem_nil, or_false, List.mem_flatMap] at hx
    rcases hx with (rfl | rfl | rfl) | ⟨k, hk1, hx⟩
    · unfold I64; omega
    · unfold I64; omega
    · unfold I64; omega
    · have b1 := hse.each k hk1
      obtain ⟨b2, b3⟩ := hk s hs k hk1
      unfold kpN at hx
      simp only [List.mem_cons, List.not_mem_nil, or_false] at hx
      rcases hx with rfl | rfl | rfl | rfl
      · unfold I64; omega
      · unfold I64; omega
      · exact b2
      · exact b3
theorem nuL_app (ν : Nat → Int) (i a b : Nat) : nuL ν i (a + b) = nuL ν i a ++ nuL ν (i + a) b := by
  unfold nuL
  rw [List.range_add, List.map_append, List.map_map]
  congr 1
  refine List.map_congr_left fun j _ => ?_
  show ν (i + (a + j)) = ν (i + a + j)
  rw [Nat.add_assoc]
theorem nuL_one (ν : Nat → Int) (i : Nat) : nuL ν i 1 = [ν i] := rfl
theorem kpN_kpL (ν : Nat → Int) (q : Nat) : ∀ k, (kpL ν q k).flatMap kpN = nuL ν q (4 * k)
  | 0 => rfl
  | k + 1 => by
    unfold kpL
    rw [range_snoc, List.flatMap_append, show (List.map (fun j => kpO ν (q + 4 * j)) (List.range k)) = kpL ν q k from rfl, kpN_kpL ν q k, show 4 * (k + 1) = 4 * k + 4 by omega, nuL_app]
    congr 1
theorem sesN_sesO (ν : Nat → Int) (u : Nat) (h : ν (u + 2) = (cnt 8 (ν (u + 2)) : Int)) : sesN (sesO ν u) = nuL ν u (3 + 4 * cnt 8 (ν (u + 2))) := by
  unfold sesN sesO
  dsimp only
  rw [kpN_kpL, nuL_app, kpL_len, ← h]; rfl
theorem sesP_ge (ν : Nat → Int) (q : Nat) : ∀ k, q ≤ sesP ν q k
  | 0 => Nat.le_refl _
  | k + 1 => by
    have := sesP_ge ν q k
    show q ≤ sesE ν (sesP ν q k)
    unfold sesE; omega
theorem sesN_sesL (ν : Nat → Int) (q : Nat) : ∀ k, (∀ j, j < k → ν (sesP ν q j + 2) = (cnt 8 (ν (sesP ν q j + 2)) : Int)) → (sesL ν q k).flatMap sesN = nuL ν q (sesP ν q k - q)
  | 0, _ => by rw [show sesP ν q 0 = q from rfl, Nat.sub_self]; rfl
  | k + 1, h => by
    unfold sesL
    rw [range_snoc, List.flatMap_append, show (List.map (fun j => sesO ν (sesP ν q j)) (List.range k)) = sesL ν q k from rfl, sesN_sesL ν q k fun j hj => h j (by omega)]
    have h1 := sesP_ge ν q k
    rw [List.flatMap_cons, List.flatMap_nil, List.append_nil, sesN_sesO ν _ (h k (Nat.lt_succ_self k)), show sesP ν q (k + 1) - q = (sesP ν q k - q) + (3 + 4 * cnt 8 (ν (sesP ν q k + 2))) from by
      show sesE ν (sesP ν q k) - q = _
      unfold sesE; omega, nuL_app ν q (sesP ν q k - q), show q + (sesP ν q k - q) = sesP ν q k by omega]
theorem r16_nuL (ν : Nat → Int) (q : Nat) : r16 ν q = nuL ν q 16 := rfl
theorem rgs_r16 (ν : Nat → Int) (q : Nat) : rgs (r16 ν q) = r16 ν q := rgs_of rfl
theorem nums_imD (ν : Nat → Int) (h1 : ν 2 = (cnt 7 (ν 2) : Int)) (h2 : ν (3 + cnt 7 (ν 2) + 16) = (cnt 16 (ν (3 + cnt 7 (ν 2) + 16)) : Int)) (h3 : ∀ j, j < cnt 16 (ν (3 + cnt 7 (ν 2) + 16)) → ν (sesP ν (3 + cnt 7 (ν 2) + 17) j + 2) = (cnt 8 (ν (sesP ν (3 + cnt 7 (ν 2) + 17) j + 2)) : Int)) : numsI (imD ν) = nuL ν 0 (enD ν) := by
  unfold numsI imD enD
  dsimp only
  rw [nuL_len, sesL_len, sesN_sesL ν _ _ h3, rgs_r16, r16_nuL, ← h1, ← h2]
  obtain ⟨n, en⟩ : ∃ n, n = cnt 7 (ν 2) := ⟨_, rfl⟩
  rw [← en]
  obtain ⟨e, ee⟩ : ∃ e, e = sesP ν (3 + n + 17) (cnt 16 (ν (3 + n + 16))) := ⟨_, rfl⟩
  have hge : 3 + n + 17 ≤ e := by rw [ee]; exact sesP_ge _ _ _
  rw [← ee]
  have : e = 3 + (n + (16 + (1 + (e - (3 + n + 17))))) := by omega
  rw [show nuL ν 0 e = nuL ν 0 (3 + (n + (16 + (1 + (e - (3 + n + 17)))))) from by rw [← this], nuL_app, nuL_app, nuL_app, nuL_app]
  simp only [Nat.zero_add, List.append_assoc]
  rfl
theorem cnt_eq {most v : Int} (hm : 0 ≤ most) (h : cnt most v ≤ most.toNat) : v = (cnt most v : Int) := by
  unfold cnt upN at *
  split at h
  · omega
  · rename_i q
    rw [if_neg q]; omega
theorem walk_ok {bs : List Int} (hb : Byt bs) : ∀ j, (plD bs j).2 = 0 → bs = intsL (nuL (nuD bs) 0 j) ++ bs.drop (plD bs j).1
  | 0, _ => rfl
  | j + 1, h => by
    have h1 := readN_ok (l := bs.drop (plD bs j).1) (fun b q => hb b (List.mem_of_mem_drop q)) (bad := (plD bs j).2) h
    have h2 := walk_ok hb j h1.1
    have hle := (rds bs hb).le j
    have hd : bs.drop (plD bs (j + 1)).1 = (readN (bs.drop (plD bs j).1) (plD bs j).2).1 := ixN_drop hle _
    rw [hd, nuL_app, ← intsL_app, List.append_assoc, Nat.zero_add, nuL_one]
    have e : intsL [nuD bs j] = numB (readN (bs.drop (plD bs j).1) (plD bs j).2).2.2 := by
      unfold intsL
      rw [List.flatMap_cons, List.flatMap_nil, List.append_nil]
      show numB (foldN (unfoldN _)) = _
      rw [fold_unfold]; rfl
    rw [e, ← h1.2.1]
    exact h2
theorem dec_ok {bs : List Int} (hb : Byt bs) (h : decX bs = 0) : VI (imD (nuD bs)) ∧ bs = intsL (numsI (imD (nuD bs))) ∧ bs.length ≤ 16384 := by
  unfold decX at h
  by_cases h0 : 16384 < bs.length
  · rw [if_pos h0] at h; cases h
  rw [if_neg h0] at h
  by_cases h1 : doneB bs.length (plD bs (enD (nuD bs))).1 (plD bs (enD (nuD bs))).2 ≠ 0
  · rw [if_pos h1] at h; cases h
  rw [if_neg h1] at h
  obtain ⟨ν, eν⟩ : ∃ ν, ν = nuD bs := ⟨_, rfl⟩
  rw [← eν] at h h1 ⊢
  rcases Bool.eq_false_or_eq_true (validI (imD ν)) with hv | hv
  case' inr => rw [hv] at h; cases h
  have hV := (validI_iff _).1 hv
  have hbad : (plD bs (enD ν)).2 = 0 ∧ bs.length ≤ (plD bs (enD ν)).1 := by
    unfold doneB at h1
    have h1 := Classical.not_not.1 h1
    split at h1
    · cases h1
    · rename_i q
      exact ⟨h1, by
        rcases Nat.lt_or_ge (plD bs (enD ν)).1 bs.length with z | z
        · exact absurd ⟨h1, z⟩ q
        · exact z⟩
  have hw := walk_ok hb _ hbad.1
  rw [List.drop_of_length_le hbad.2, List.append_nil, ← eν] at hw
  refine ⟨hV, ?_, by omega⟩
  have hf := hV.fit
  have c1 : ν 2 = (cnt 7 (ν 2) : Int) := cnt_eq (by decide) (by have := hf.1; unfold imD at this; dsimp only at this; rw [nuL_len] at this; exact this)
  have c2 : ν (3 + cnt 7 (ν 2) + 16) = (cnt 16 (ν (3 + cnt 7 (ν 2) + 16)) : Int) := cnt_eq (by decide) (by have := hf.2; unfold imD at this; dsimp only at this; rw [sesL_len] at this; exact this)
  rw [nums_imD ν c1 c2 fun j hj => cnt_eq (by decide) ?_]
  · exact hw
  · have := (hV.tb.each (sesO ν (sesP ν (3 + cnt 7 (ν 2) + 17) j)) (by
      unfold imD sesL
      exact List.mem_map.2 ⟨j, List.mem_range.2 hj, rfl⟩)).len
    unfold sesO at this
    rw [kpL_len] at this
    exact this
theorem nuL_head {ν : Nat → Int} {i n : Nat} {x : Int} {l : List Int} (h : nuL ν i (n + 1) = x :: l) : ν i = x ∧ nuL ν (i + 1) n = l := by
  rw [Nat.add_comm, nuL_app] at h
  have h2 : ν i :: nuL ν (i + 1) n = x :: l := h
  exact ⟨List.head_eq_of_cons_eq h2, List.tail_eq_of_cons_eq h2⟩
theorem nuL_cut {ν : Nat → Int} {i n : Nat} {l m : List Int} (h : nuL ν i n = l ++ m) : nuL ν i l.length = l ∧ nuL ν (i + l.length) m.length = m ∧ n = l.length + m.length := by
  have hn : n = l.length + m.length := by
    have := congrArg List.length h
    rw [nuL_len, List.length_append] at this; exact this
  rw [hn, nuL_app] at h
  obtain ⟨h1, h2⟩ := List.append_inj h (nuL_len _ _ _)
  exact ⟨h1, h2, hn⟩
theorem kp_back (ν : Nat → Int) : ∀ (l : List KpD) (q : Nat), nuL ν q (l.flatMap kpN).length = l.flatMap kpN → kpL ν q l.length = l
  | [], _, _ => rfl
  | x :: l, q, h => by
    rw [List.flatMap_cons] at h
    obtain ⟨h1, h2, _⟩ := nuL_cut h
    have h3 := kp_back ν l (q + 4) h2
    have e : nuL ν q 4 = [x.seq, x.kind, x.re, x.im] := h1
    simp only [nuL, List.range, List.range.loop, List.map_cons, List.map_nil, List.cons.injEq, and_true] at e
    have hx : kpO ν q = x := by
      obtain ⟨a, b, c, d⟩ := x
      obtain ⟨e1, e2, e3, e4⟩ := e
      unfold kpO
      dsimp only at e1 e2 e3 e4
      rw [← e1, ← e2, ← e3, ← e4]; rfl
    rw [List.length_cons, Nat.add_comm]
    unfold kpL at h3 ⊢
    rw [List.range_add, List.map_append, List.map_map]
    have h4 : (List.range l.length).map ((fun j => kpO ν (q + 4 * j)) ∘ fun x => 1 + x) = l := by
      refine Eq.trans (List.map_congr_left fun j _ => ?_) h3
      show kpO ν (q + 4 * (1 + j)) = kpO ν (q + 4 + 4 * j)
      congr 1; omega
    rw [h4]
    show [kpO ν (q + 4 * 0)] ++ l = x :: l
    rw [Nat.mul_zero, Nat.add_zero, hx]; rfl
theorem sesP_shift (ν : Nat → Int) (q : Nat) : ∀ k, sesP ν q (k + 1) = sesP ν (sesE ν q) k
  | 0 => rfl
  | k + 1 => by
    show sesE ν (sesP ν q (k + 1)) = sesE ν (sesP ν (sesE ν q) k)
    rw [sesP_shift ν q k]
theorem cnt_of {most : Int} {n : Nat} (h : (n : Int) ≤ most) : cnt most (n : Int) = n := by
  unfold cnt upN
  rw [if_neg (by omega)]; omega
theorem ses_back (ν : Nat → Int) : ∀ (t : List SsD) (q : Nat), (∀ s ∈ t, s.kept.length ≤ 8) → nuL ν q (t.flatMap sesN).length = t.flatMap sesN → sesL ν q t.length = t ∧ sesP ν q t.length = q + (t.flatMap sesN).length
  | [], _, _, _ => ⟨rfl, rfl⟩
  | s :: t, q, hk, h => by
    rw [List.flatMap_cons] at h
    obtain ⟨h1, h2, _⟩ := nuL_cut h
    obtain ⟨no, ack, kept⟩ := s
    have hk8 := hk _ List.mem_cons_self
    dsimp only at hk8
    have hl : (sesN ⟨no, ack, kept⟩).length = 3 + 4 * kept.length := sesN_len _
    have h1' : nuL ν q (sesN ⟨no, ack, kept⟩).length = [no, ack, (kept.length : Int)] ++ kept.flatMap kpN := h1
    obtain ⟨g1, g2, _⟩ := nuL_cut h1'
    have e : nuL ν q 3 = [no, ack, (kept.length : Int)] := g1
    simp only [nuL, List.range, List.range.loop, List.map_cons, List.map_nil, List.cons.injEq, and_true] at e
    obtain ⟨e1, e2, e3⟩ := e
    have hc : cnt 8 (ν (q + 2)) = kept.length := by rw [e3]; exact cnt_of (by omega)
    have hE : sesE ν q = q + (sesN ⟨no, ack, kept⟩).length := by unfold sesE; rw [hc, hl]; omega
    have hO : sesO ν q = ⟨no, ack, kept⟩ := by
      unfold sesO
      have g3 : kpL ν (q + 3) kept.length = kept := kp_back ν kept (q + 3) g2
      rw [hc, g3]
      rw [show ν q = no from e1, show ν (q + 1) = ack from e2]
    rw [← hE] at h2
    obtain ⟨h3, h4⟩ := ses_back ν t (sesE ν q) (fun s hs => hk s (List.mem_cons_of_mem _ hs)) h2
    refine ⟨?_, ?_⟩
    · rw [List.length_cons, Nat.add_comm]
      unfold sesL at h3 ⊢
      rw [List.range_add, List.map_append, List.map_map]
      have h5 : (List.range t.length).map ((fun j => sesO ν (sesP ν q j)) ∘ fun x => 1 + x) = t := by
        refine Eq.trans (List.map_congr_left fun j _ => ?_) h3
        show sesO ν (sesP ν q (1 + j)) = _
        rw [Nat.add_comm 1 j, sesP_shift]
      rw [h5]
      show [sesO ν (sesP ν q 0)] ++ t = _
      rw [show sesP ν q 0 = q from rfl, hO]; rfl
    · rw [List.length_cons, sesP_shift, h4, hE, List.flatMap_cons, List.length_append]; omega
theorem imD_back {ν : Nat → Int} {I : Im} (h : VI I) (hr : I.regs.length = 16) (hν : nuL ν 0 (numsI I).length = numsI I) : imD ν = I ∧ enD ν = (numsI I).length := by
  obtain ⟨ep, mem, sl, regs, tb⟩ := I
  have hf := h.fit
  dsimp only at hf hr
  have hν' : nuL ν 0 (numsI ⟨ep, mem, sl, regs, tb⟩).length = [ep, sl, (mem.length : Int)] ++ (mem ++ (rgs regs ++ ([(tb.length : Int)] ++ tb.flatMap sesN))) := by
    rw [hν]; unfold numsI; simp only [List.append_assoc]
  obtain ⟨g1, g2, gl⟩ := nuL_cut hν'
  obtain ⟨m1, m2, _⟩ := nuL_cut g2
  obtain ⟨r1, r2, _⟩ := nuL_cut m2
  obtain ⟨t1, t2, _⟩ := nuL_cut r2
  have e : nuL ν 0 3 = [ep, sl, (mem.length : Int)] := g1
  simp only [nuL, List.range, List.range.loop, List.map_cons, List.map_nil, List.cons.injEq, and_true] at e
  obtain ⟨e1, e2, e3⟩ := e
  have hc : cnt 7 (ν 2) = mem.length := by rw [show ν 2 = (mem.length : Int) from e3]; exact cnt_of (by omega)
  have hrl : (rgs regs).length = 16 := rfl
  have p3 : 0 + [ep, sl, (mem.length : Int)].length = 3 := rfl
  rw [p3] at m1 m2 r1 r2 t1 t2
  rw [hrl] at r1 r2 t1 t2
  have t1' : ν (3 + mem.length + 16) = (tb.length : Int) := (nuL_head (n := 0) (l := []) t1).1
  have hc2 : cnt 16 (ν (3 + mem.length + 16)) = tb.length := by rw [t1']; exact cnt_of (by omega)
  have t2' : nuL ν (3 + mem.length + 17) (tb.flatMap sesN).length = tb.flatMap sesN := t2
  obtain ⟨s1, s2⟩ := ses_back ν tb _ (fun s hs => (h.tb.each s hs).len) t2'
  unfold imD enD
  rw [hc, hc2, s1, s2, m1, r16_nuL, r1, rgs_of hr, show ν 0 = ep from e1, show ν 1 = sl from e2]
  refine ⟨rfl, ?_⟩
  unfold numsI
  dsimp only
  simp only [List.length_append, hrl, List.length_cons, List.length_nil]
theorem walk_back {bs : List Int} (hb : Byt bs) : ∀ (l pre : List Int) (j : Nat), (∀ x ∈ l, I64 x) → Here bs (plD bs j) (intsL l) → nuL (nuD bs) j l.length = l ∧ Here bs (plD bs (j + l.length)) []
  | [], _, _, _, h => ⟨rfl, h⟩
  | x :: l, pre, j, hl, h => by
    have h' : Here bs (plD bs j) (numB (foldN x) ++ intsL l) := h
    obtain ⟨h1, h2⟩ := here_int (hl x List.mem_cons_self) h'
    obtain ⟨h3, h4⟩ := walk_back hb l pre (j + 1) (fun y hy => hl y (List.mem_cons_of_mem _ hy)) h1
    refine ⟨?_, ?_⟩
    · rw [List.length_cons, Nat.add_comm, nuL_app, h3, nuL_one, show nuD bs j = x from h2]; rfl
    · rw [List.length_cons, show j + (l.length + 1) = j + 1 + l.length by omega]; exact h4
theorem numB_byt {u : Nat} (h : u < 2 ^ 64) : Byt (numB u) := fun b hb => by
  have := nlen_8 h
  rcases List.mem_cons.1 hb with rfl | hb
  · omega
  · exact digs_byt _ _ b hb
theorem intsL_byt {l : List Int} (h : ∀ x ∈ l, I64 x) : Byt (intsL l) := by
  intro b hb
  obtain ⟨x, hx, hb⟩ := List.mem_flatMap.1 hb
  exact numB_byt (foldN_lt (h x hx)) b hb
theorem dec_back {I : Im} (h : VI I) (hr : I.regs.length = 16) (hn : NFit I) : decX (intsL (numsI I)) = 0 ∧ imD (nuD (intsL (numsI I))) = I := by
  obtain ⟨bs, ebs⟩ : ∃ bs, bs = intsL (numsI I) := ⟨_, rfl⟩
  have hb : Byt bs := by rw [ebs]; exact intsL_byt hn
  have hl : bs.length ≤ 9 * (numsI I).length := by rw [ebs]; exact intsL_len hn
  have hl2 := nums_len h
  rw [← ebs]
  obtain ⟨h1, h2⟩ := walk_back hb (numsI I) [] 0 hn ⟨rfl, Nat.zero_le _, ebs⟩
  obtain ⟨h3, h4⟩ := imD_back h hr h1
  refine ⟨?_, h3⟩
  unfold decX
  rw [if_neg (by omega), h3, h4, if_neg, (validI_iff I).2 h]
  · rfl
  · rw [Nat.zero_add] at h2
    unfold doneB
    have h5 := h2.is
    have h6 := h2.ok
    have h7 : bs.length ≤ (plD bs (numsI I).length).1 := by
      rcases Nat.lt_or_ge (plD bs (numsI I).length).1 bs.length with z | z
      · have := congrArg List.length h5
        rw [List.length_drop] at this
        simp at this; omega
      · exact z
    rw [h6, if_neg (by omega)]
    simp
end Go.Proofs.Ytfjiolgdcphjhaa

namespace Go.Proofs.Ytfjiolgdcphjhaa
open Go.ChangeShapes Go.WideShapes Go.ChangeAt Go.RowKit Go.Syn Go.Eng
set_option linter.unusedVariables false
set_option linter.unusedSimpArgs false
set_option maxRecDepth 100000
structure Qb (w : World) (a : Option Addr) (bs : List Int) : Prop where
  mem : Cells w a (bcells bs)
  byt : Byt bs
  len : bs.length ≤ 140737488355328
theorem cl_keep {w w' : World} {a : Option Addr} {xs : List Value} (h : Cells w a xs) (hb : ∀ k, k < w.heap.size → w'.heap[k]? = w.heap[k]?) : Cells w' a xs := (HX.cl a xs).loc w w' h fun k hk => hb k (cl_sep h k hk)
theorem Qb.keep {w w' : World} {a : Option Addr} {bs : List Int} (h : Qb w a bs) (hb : ∀ k, k < w.heap.size → w'.heap[k]? = w.heap[k]?) : Qb w' a bs := ⟨cl_keep h.mem hb, h.byt, h.len⟩
def qR (bs : List Int) (a' : Option Addr) (c' : Nat) (p : Nat × Int) : Value := .agg #[.slice a' (bs.drop p.1).length c', .int .i64 p.2]
def AtP (bs : List Int) (a a' : Option Addr) (c' : Nat) (p : Nat × Int) : Prop := p.1 ≤ bs.length ∧ Left a bs a' (bs.drop p.1) c'
theorem AtP.start {bs : List Int} {a : Option Addr} {c : Nat} (h : bs.length ≤ c) (bad : Int) : AtP bs a a c (0, bad) := ⟨Nat.zero_le _, Left.refl h⟩
theorem qnumP {w : World} {bs : List Int} {a a' : Option Addr} {c' : Nat} {p : Nat × Int} (H : Qb w a bs) (hA : AtP bs a a' c' p) : Calls Try.prog 91 #[qR bs a' c' p] w (fun e w' => ∃ a2 c2, e = .returned (.tuple #[qR bs a2 c2 (stN bs p), .int .u64 (unN bs p : Int)]) ∧ AtP bs a a2 c2 (stN bs p) ∧ Below w.heap.size w w') := by
  refine (qnum_any a' c' (bs.drop p.1) p.2 w (hA.2.1 w H.mem) (fun b q => H.byt b (List.mem_of_mem_drop q)) (by rw [List.length_drop]; have := H.len; omega) hA.2.2.1).mono ?_
  rintro e w' ⟨a2, c2, rfl, hL, hb⟩
  have e1 : bs.drop (stN bs p).1 = (readN (bs.drop p.1) p.2).1 := ixN_drop hA.1 p.2
  refine ⟨a2, c2, ?_, ⟨stN_le _ _, ?_⟩, hb⟩
  · unfold qV qR
    rw [e1]; rfl
  · rw [e1]; exact hA.2.trans hL
section
variable {C : Cfg} {ρ : Env} {pre : List Nat} {hx : HX} {L : Stack} {m m' : Mem} {args : List SV} {r : SV} {t : Tree}
theorem node_q {f : Nat} {bs : List Int} {a : Option Addr} {p' : Nat × Int} {V : Value → Value} (AS : Array Value) (vs : Option Addr → Nat → Vals) (hargs : ∀ ids, (args.map (SV.den ρ ids)).toArray = AS) (hhp : m'.hp = m.hp) (hfit : hpFits m.c m.hp.length m.hp = true) (hc : ∀ a2 c2, (ρ.add (vs a2 c2)).cnt = m'.c) (h1 : ∀ a2 c2 v, v ∈ (vs a2 c2).v → v.oneCell' = true)
    (hr : ∀ a2 c2 ids, r.den (ρ.add (vs a2 c2)) ids = V (qR bs a2 c2 p'))
    (hcall : ∀ ids w, pre <+: ids → Facts C m ρ ids hx w → Calls C.P f AS w (fun e w' => ∃ a2 c2, e = .returned (V (qR bs a2 c2 p')) ∧ AtP bs a a2 c2 p' ∧ Below w.heap.size w w'))
    (h : ∀ a2 c2, AtP bs a a2 c2 p' → t.holds C (ρ.add (vs a2 c2)) pre hx L) : (Tree.call f args m r m' t).holds C ρ pre hx L := by
  refine node_pures (fun u => ∃ a2 c2, AtP bs a a2 c2 p' ∧ u = vs a2 c2) hhp hfit ?_ (fun ids w hp hf => ?_) ?_
  · rintro u ⟨a2, c2, _, rfl⟩
    exact ⟨hc _ _, h1 _ _⟩
  · rw [hargs]
    refine (hcall ids w hp hf).mono ?_
    rintro e w' ⟨a2, c2, rfl, hA, hb⟩
    exact ⟨_, ⟨a2, c2, hA, rfl⟩, by rw [hr], hb⟩
  · rintro u ⟨a2, c2, hA, rfl⟩
    exact h a2 c2 hA
end
theorem facts_old {C : Cfg} {m : Mem} {ρ : Env} {ids : List Nat} {hx : HX} {w' : World} (hM : ∀ k, ¬ C.M k) (hf : Facts C m ρ ids hx w') : ∀ k, k < C.W.heap.size → w'.heap[k]? = C.W.heap[k]? := fun k hk => hf.chg.block k hk (hM k)

theorem lit_cl {P : Program} {W w : World} {M : Nat → Prop} {R : Ending → World → Prop} {m : Mem} {ρ : Env} {ids : List Nat} {hx : HX} {us : List Value} {ty : Nat} {cs : List LV} (hf : Facts ⟨P, W, M, R⟩ m ρ ids hx w) (n : Nat) (h : m.hp[n]? = some (ty, cs)) (hc : cellsDen ρ ids cs = us) : Cells w (some ⟨idAt ids n, 0, none⟩) us :=
  blk_cells (ty := ty) ((hf.blkAt n h).trans (by rw [hc]))
theorem mrow_app (a : Option Addr) (c : Nat) (M xs : List Int) : HX.rw 1 3 a (M.length + xs.length) c (M.map (Value.int .i64) ++ xs.map (Value.int .i64)) = mrow a c (M ++ xs) := by
  unfold mrow
  rw [List.length_append, List.map_append]
section
variable {C : Cfg} {ρ : Env} {pre : List Nat} {hx : HX} {L : Stack} {m m' : Mem} {args : List SV} {r : SV} {t : Tree}
theorem node_iapp {ty : Nat} {ps : List (Nat × SV)} {rest : HX} {so xo : Operand} {ac : Go.Call} (hC : C.P = Try.prog) (hac : ac = { callee := .builtin .append, args := #[so, xo], argTypes := #[22, 22] }) (a : Option Addr) (cap : Nat) (M xs : List Int) (sa : List Nat → Option Addr) (c2 : Nat) (hso : ∀ ids, envOf ρ ids ps so = .slice a M.length cap) (hxo : ∀ ids, envOf ρ ids ps xo = .slice (sa ids) xs.length c2)
    (hxs : ∀ ids w, pre <+: ids → Facts C m ρ ids (rest.and (mrow a cap M)) w → Cells w (sa ids) (xs.map (Value.int .i64))) (hap : Apart C.W rest (mrow a cap M)) (hl : M.length + xs.length ≤ 2000000)
    (hr : ∀ a' cap' ids, r.den (ρ.add ⟨[], [], [], [M.length + xs.length, cap'], [a']⟩) ids = .slice a' (M.length + xs.length) cap') (hhp : m'.hp = m.hp) (hfit : hpFits m.c m.hp.length m.hp = true) (hc : ∀ a' cap', (ρ.add ⟨[], [], [], [M.length + xs.length, cap'], [a']⟩).cnt = m'.c)
    (h : ∀ a' cap', Apart C.W rest (mrow a' cap' (M ++ xs)) → t.holds C (ρ.add ⟨[], [], [], [M.length + xs.length, cap'], [a']⟩) pre (rest.and (mrow a' cap' (M ++ xs))) L) :
    (Tree.gen (.call ac) ty ps m (some r) m' t).holds C ρ pre (rest.and (mrow a cap M)) L := by
  obtain ⟨P, W, MM, R⟩ := C
  cases hC
  refine node_appends (z := .int .i64 0) (sz := 1) (bytes := 8) (rest := rest) hac (by kernel_rfl) info_i64 rfl (by decide) a M.length cap (M.map (Value.int .i64)) sa xs.length c2 (xs.map (Value.int .i64)) (by simp) (fun ids w hp hf => hf.x.2) hxs (fun u hu => by obtain ⟨x, _, rfl⟩ := List.mem_map.1 hu; rfl) (fun w hX => ⟨hX.1, fun k hk => .inl hk⟩) (fun k h1 h2 => .inr ⟨h1, h2⟩) (fun k h1 h2 hF => (hap k ⟨h1, h2⟩).2 hF) (fun k h1 h2 => .inl (hap k ⟨h1, h2⟩).1) (by simp only [maxLen]; omega) (by omega) hso (fun ids _ => hxo ids) hr hhp hfit hc ?_
  intro a' c' _ hdis hwh
  rw [mrow_app]
  refine h a' c' fun q hq => ⟨?_, hdis q hq.1 hq.2⟩
  rcases hwh q hq.1 hq.2 with ⟨z1, z2⟩ | ⟨z1, z2⟩
  · exact (hap q ⟨z1, z2⟩).1
  · exact z1
end
def rNI (W : World) (NL : List Int) (t : List SsD) (vs : Vals) (hx : HX) : Prop := ∃ (k : Nat) (a : Option Addr) (cap : Nat), k ≤ t.length ∧ Apart W HX.nil (mrow a cap (NL ++ (t.take k).flatMap sesN)) ∧ vs = ⟨[(k : Int)], [], [], [(NL ++ (t.take k).flatMap sesN).length, cap], [a]⟩ ∧ hx = HX.nil.and (mrow a cap (NL ++ (t.take k).flatMap sesN))
def rKI (W : World) (NL : List Int) (l : List KpD) (vs : Vals) (hx : HX) : Prop := ∃ (k : Nat) (a : Option Addr) (cap : Nat), k ≤ l.length ∧ Apart W HX.nil (mrow a cap (NL ++ (l.take k).flatMap kpN)) ∧ vs = ⟨[(k : Int)], [], [], [(NL ++ (l.take k).flatMap kpN).length, cap], [a]⟩ ∧ hx = HX.nil.and (mrow a cap (NL ++ (l.take k).flatMap kpN))
def rBI (W : World) (R : HX) (S : Prop) (NS : List Int) (vs : Vals) (hx : HX) : Prop := ∃ (k : Nat) (a : Option Addr) (cap : Nat), k ≤ NS.length ∧ S ∧ Apart W R (frow a cap (intsL (NS.take k))) ∧ vs = ⟨[(k : Int)], [], [], [(intsL (NS.take k)).length, cap], [a]⟩ ∧ hx = R.and (frow a cap (intsL (NS.take k)))
theorem mrow_some {a : Option Addr} {c : Nat} {M : List Int} {w : World} (hX : (mrow a c M).X w) (h : 0 < M.length) : a.isSome = true := by
  obtain ⟨x, hx⟩ : ∃ x, M[0]? = some x := ⟨_, List.getElem?_eq_getElem h⟩
  refine (cl_elt (rw_cells hX) (i := 0) (sz := 1) [.int .i64 x] (fun i u hi => ?_) (by simp)).1
  cases i with
  | zero =>
    simp only [List.getElem?_cons_zero, Option.some.injEq] at hi
    rw [Nat.mul_one, Nat.add_zero, List.getElem?_map, hx, ← hi]; rfl
  | succ n => simp at hi
theorem kp_fld {l : List KpD} {k : KpD} (i o : Nat) (u : Value) (h : l[i]? = some k) (hu : k.cells[o]? = some u) {a : Option Addr} {w : World} (H : Cells w a (kcells l)) : CellsAt w (.pointer (some (((a.getD ⟨0, 0, none⟩).add (i * 4)).add o))) [u] (fun _ => False) :=
  (flat_part kp_len H h (o := o) [u] (at1 hu) (by simp)).2 _ id
theorem mem_ne {xs : List Int} (h : setOkB xs = true) : 0 < xs.length := by
  cases xs with
  | nil => exact absurd h (by decide)
  | cons x l => exact Nat.succ_pos _
set_option maxHeartbeats 16000000 in
theorem rbytes20_any (I : Im) (a1 : Option Addr) (c1 : Nat) (a2 : Option Addr) (c2 : Nat) (es : List SE) (w : World) (H : ImAt w I a1 a2 es) (hI : VI I) (hN : NFit I) : Calls Try.prog 27 #[imV I a1 c1 a2 c2] w (NewO w id (intsL (numsI I))) := by
  refine calls_at (tab_ok _) Try.func27 rfl tXRBytes2 (ρ := ⟨imI I, [], [], [I.mem.length, c1, I.tb.length, c2], [a1, a2]⟩) (ids := []) (hx := HX.nil) (by kernel_rfl) (Facts.initP rfl oneNil) ?_
  have keep : ∀ {m : Mem} {ρ : Env} {ids : List Nat} {hx : HX} {w2 : World} {R : Ending → World → Prop}, Facts ⟨Try.prog, w, fun _ => False, R⟩ m ρ ids hx w2 → ImAt w2 I a1 a2 es := fun hf => H.keep (fun k hk => hf.chg.block k hk (fun q => q))
  have hnl := nums_len hI
  have hml := hI.fit.1
  have hmp := mem_ne hI.mem
  have hsub : ∀ {l : List Int}, (∀ x ∈ l, x ∈ numsI I) → ∀ x ∈ l, I64 x := fun h x hx => hN x (h x hx)
  obtain ⟨A0, eA0⟩ : ∃ A0, A0 = [I.ep, I.sl, (I.mem.length : Int)] := ⟨_, rfl⟩
  have lA0 : A0.length = 3 := by rw [eA0]; rfl
  refine node_pre (z := .int .i64 0) (sz := 1) (bytes := 8) (bn := 1) (k := 3) rfl Try.underlying22 info_i64 rfl (by decide) [.int .i64 I.ep, .int .i64 I.sl, .int .i64 (I.mem.length : Int)] (fun _ => a1) I.mem.length c1 (I.mem.map (Value.int .i64)) rfl (by intros; kernel_rfl) rfl (by simp) hmp (fun ids w2 hp hf => (keep hf).mem.cells) (by simp only [maxLen]; omega) (by omega) (by intros; kernel_rfl) (by intros; kernel_rfl) (by intros; kernel_rfl) (by kernel_rfl) (by kernel_rfl) (by intros; kernel_rfl) ?_
  intro p1 q1 hp1
  obtain ⟨A1, eA1⟩ : ∃ A1, A1 = A0 ++ I.mem := ⟨_, rfl⟩
  have lA1' : A1.length = 3 + I.mem.length := by rw [eA1, List.length_append, lA0]
  have lA1 : A1.length ≤ 10 := by omega
  refine holds_eq (show _ = HX.nil.and (mrow p1 q1 A1) from by unfold mrow; rw [lA1', eA1, eA0]; rfl) ?_
  have ap1 : Apart w HX.nil (mrow p1 q1 A1) := fun z hz => hp1 z hz.1 hz.2
  refine holds_env (ρ' := ⟨imI I, [], [], [I.mem.length, c1, I.tb.length, c2, A1.length, q1], [a1, a2, p1]⟩) (by rw [lA1']; kernel_rfl) ?_

  refine node_iapp rfl rfl p1 q1 A1 [rg I.regs 0, rg I.regs 1] (fun ids => some ⟨idAt ids 2, 0, none⟩) 2 (by intros; kernel_rfl) (by intros; kernel_rfl) (fun ids w2 hp hf => lit_cl hf 2 rfl (by intros; kernel_rfl)) ap1 (by rw [show [rg I.regs 0, rg I.regs 1].length = 2 from rfl]; omega) (by intros; kernel_rfl) (by kernel_rfl) (by kernel_rfl) (by intros; kernel_rfl) ?_
  intro p2 q2 ap2
  obtain ⟨A2, eA2⟩ : ∃ X, X = A1 ++ [rg I.regs 0, rg I.regs 1] := ⟨_, rfl⟩
  have lA2 : A2.length ≤ 12 := by rw [eA2, List.length_append, show [rg I.regs 0, rg I.regs 1].length = 2 from rfl]; omega
  refine holds_env (ρ' := ⟨imI I, [], [], [I.mem.length, c1, I.tb.length, c2, A1.length, q1, A2.length, q2], [a1, a2, p1, p2]⟩) (by rw [eA2, List.length_append]; kernel_rfl) ?_
  rw [← eA2] at ap2 ⊢
  refine node_iapp rfl rfl p2 q2 A2 [rg I.regs 2, rg I.regs 3] (fun ids => some ⟨idAt ids 3, 0, none⟩) 2 (by intros; kernel_rfl) (by intros; kernel_rfl) (fun ids w2 hp hf => lit_cl hf 3 rfl (by intros; kernel_rfl)) ap2 (by rw [show [rg I.regs 2, rg I.regs 3].length = 2 from rfl]; omega) (by intros; kernel_rfl) (by kernel_rfl) (by kernel_rfl) (by intros; kernel_rfl) ?_
  intro p3 q3 ap3
  obtain ⟨A3, eA3⟩ : ∃ X, X = A2 ++ [rg I.regs 2, rg I.regs 3] := ⟨_, rfl⟩
  have lA3 : A3.length ≤ 14 := by rw [eA3, List.length_append, show [rg I.regs 2, rg I.regs 3].length = 2 from rfl]; omega
  refine holds_env (ρ' := ⟨imI I, [], [], [I.mem.length, c1, I.tb.length, c2, A1.length, q1, A2.length, q2, A3.length, q3], [a1, a2, p1, p2, p3]⟩) (by rw [eA3, List.length_append]; kernel_rfl) ?_
  rw [← eA3] at ap3 ⊢
  refine node_iapp rfl rfl p3 q3 A3 [rg I.regs 4, rg I.regs 5] (fun ids => some ⟨idAt ids 4, 0, none⟩) 2 (by intros; kernel_rfl) (by intros; kernel_rfl) (fun ids w2 hp hf => lit_cl hf 4 rfl (by intros; kernel_rfl)) ap3 (by rw [show [rg I.regs 4, rg I.regs 5].length = 2 from rfl]; omega) (by intros; kernel_rfl) (by kernel_rfl) (by kernel_rfl) (by intros; kernel_rfl) ?_
  intro p4 q4 ap4
  obtain ⟨A4, eA4⟩ : ∃ X, X = A3 ++ [rg I.regs 4, rg I.regs 5] := ⟨_, rfl⟩
  have lA4 : A4.length ≤ 16 := by rw [eA4, List.length_append, show [rg I.regs 4, rg I.regs 5].length = 2 from rfl]; omega
  refine holds_env (ρ' := ⟨imI I, [], [], [I.mem.length, c1, I.tb.length, c2, A1.length, q1, A2.length, q2, A3.length, q3, A4.length, q4], [a1, a2, p1, p2, p3, p4]⟩) (by rw [eA4, List.length_append]; kernel_rfl) ?_
  rw [← eA4] at ap4 ⊢
  refine node_iapp rfl rfl p4 q4 A4 [rg I.regs 6, rg I.regs 7] (fun ids => some ⟨idAt ids 5, 0, none⟩) 2 (by intros; kernel_rfl) (by intros; kernel_rfl) (fun ids w2 hp hf => lit_cl hf 5 rfl (by intros; kernel_rfl)) ap4 (by rw [show [rg I.regs 6, rg I.regs 7].length = 2 from rfl]; omega) (by intros; kernel_rfl) (by kernel_rfl) (by kernel_rfl) (by intros; kernel_rfl) ?_
  intro p5 q5 ap5
  obtain ⟨A5, eA5⟩ : ∃ X, X = A4 ++ [rg I.regs 6, rg I.regs 7] := ⟨_, rfl⟩
  have lA5 : A5.length ≤ 18 := by rw [eA5, List.length_append, show [rg I.regs 6, rg I.regs 7].length = 2 from rfl]; omega
  refine holds_env (ρ' := ⟨imI I, [], [], [I.mem.length, c1, I.tb.length, c2, A1.length, q1, A2.length, q2, A3.length, q3, A4.length, q4, A5.length, q5], [a1, a2, p1, p2, p3, p4, p5]⟩) (by rw [eA5, List.length_append]; kernel_rfl) ?_
  rw [← eA5] at ap5 ⊢
  refine node_iapp rfl rfl p5 q5 A5 [rg I.regs 8, rg I.regs 9] (fun ids => some ⟨idAt ids 6, 0, none⟩) 2 (by intros; kernel_rfl) (by intros; kernel_rfl) (fun ids w2 hp hf => lit_cl hf 6 rfl (by intros; kernel_rfl)) ap5 (by rw [show [rg I.regs 8, rg I.regs 9].length = 2 from rfl]; omega) (by intros; kernel_rfl) (by kernel_rfl) (by kernel_rfl) (by intros; kernel_rfl) ?_
  intro p6 q6 ap6
  obtain ⟨A6, eA6⟩ : ∃ X, X = A5 ++ [rg I.regs 8, rg I.regs 9] := ⟨_, rfl⟩
  have lA6 : A6.length ≤ 20 := by rw [eA6, List.length_append, show [rg I.regs 8, rg I.regs 9].length = 2 from rfl]; omega
  refine holds_env (ρ' := ⟨imI I, [], [], [I.mem.length, c1, I.tb.length, c2, A1.length, q1, A2.length, q2, A3.length, q3, A4.length, q4, A5.length, q5, A6.length, q6], [a1, a2, p1, p2, p3, p4, p5, p6]⟩) (by rw [eA6, List.length_append]; kernel_rfl) ?_
  rw [← eA6] at ap6 ⊢
  refine node_iapp rfl rfl p6 q6 A6 [rg I.regs 10, rg I.regs 11] (fun ids => some ⟨idAt ids 7, 0, none⟩) 2 (by intros; kernel_rfl) (by intros; kernel_rfl) (fun ids w2 hp hf => lit_cl hf 7 rfl (by intros; kernel_rfl)) ap6 (by rw [show [rg I.regs 10, rg I.regs 11].length = 2 from rfl]; omega) (by intros; kernel_rfl) (by kernel_rfl) (by kernel_rfl) (by intros; kernel_rfl) ?_
  intro p7 q7 ap7
  obtain ⟨A7, eA7⟩ : ∃ X, X = A6 ++ [rg I.regs 10, rg I.regs 11] := ⟨_, rfl⟩
  have lA7 : A7.length ≤ 22 := by rw [eA7, List.length_append, show [rg I.regs 10, rg I.regs 11].length = 2 from rfl]; omega
  refine holds_env (ρ' := ⟨imI I, [], [], [I.mem.length, c1, I.tb.length, c2, A1.length, q1, A2.length, q2, A3.length, q3, A4.length, q4, A5.length, q5, A6.length, q6, A7.length, q7], [a1, a2, p1, p2, p3, p4, p5, p6, p7]⟩) (by rw [eA7, List.length_append]; kernel_rfl) ?_
  rw [← eA7] at ap7 ⊢
  refine node_iapp rfl rfl p7 q7 A7 [rg I.regs 12, rg I.regs 13] (fun ids => some ⟨idAt ids 8, 0, none⟩) 2 (by intros; kernel_rfl) (by intros; kernel_rfl) (fun ids w2 hp hf => lit_cl hf 8 rfl (by intros; kernel_rfl)) ap7 (by rw [show [rg I.regs 12, rg I.regs 13].length = 2 from rfl]; omega) (by intros; kernel_rfl) (by kernel_rfl) (by kernel_rfl) (by intros; kernel_rfl) ?_
  intro p8 q8 ap8
  obtain ⟨A8, eA8⟩ : ∃ X, X = A7 ++ [rg I.regs 12, rg I.regs 13] := ⟨_, rfl⟩
  have lA8 : A8.length ≤ 24 := by rw [eA8, List.length_append, show [rg I.regs 12, rg I.regs 13].length = 2 from rfl]; omega
  refine holds_env (ρ' := ⟨imI I, [], [], [I.mem.length, c1, I.tb.length, c2, A1.length, q1, A2.length, q2, A3.length, q3, A4.length, q4, A5.length, q5, A6.length, q6, A7.length, q7, A8.length, q8], [a1, a2, p1, p2, p3, p4, p5, p6, p7, p8]⟩) (by rw [eA8, List.length_append]; kernel_rfl) ?_
  rw [← eA8] at ap8 ⊢
  refine node_iapp rfl rfl p8 q8 A8 [rg I.regs 14, rg I.regs 15] (fun ids => some ⟨idAt ids 9, 0, none⟩) 2 (by intros; kernel_rfl) (by intros; kernel_rfl) (fun ids w2 hp hf => lit_cl hf 9 rfl (by intros; kernel_rfl)) ap8 (by rw [show [rg I.regs 14, rg I.regs 15].length = 2 from rfl]; omega) (by intros; kernel_rfl) (by kernel_rfl) (by kernel_rfl) (by intros; kernel_rfl) ?_
  intro p9 q9 ap9
  obtain ⟨A9, eA9⟩ : ∃ X, X = A8 ++ [rg I.regs 14, rg I.regs 15] := ⟨_, rfl⟩
  have lA9 : A9.length ≤ 26 := by rw [eA9, List.length_append, show [rg I.regs 14, rg I.regs 15].length = 2 from rfl]; omega
  refine holds_env (ρ' := ⟨imI I, [], [], [I.mem.length, c1, I.tb.length, c2, A1.length, q1, A2.length, q2, A3.length, q3, A4.length, q4, A5.length, q5, A6.length, q6, A7.length, q7, A8.length, q8, A9.length, q9], [a1, a2, p1, p2, p3, p4, p5, p6, p7, p8, p9]⟩) (by rw [eA9, List.length_append]; kernel_rfl) ?_
  rw [← eA9] at ap9 ⊢
  refine node_iapp rfl rfl p9 q9 A9 [(I.tb.length : Int)] (fun ids => some ⟨idAt ids 10, 0, none⟩) 1 (by intros; kernel_rfl) (by intros; kernel_rfl) (fun ids w2 hp hf => lit_cl hf 10 rfl (by intros; kernel_rfl)) ap9 (by rw [show [(I.tb.length : Int)].length = 1 from rfl]; omega) (by intros; kernel_rfl) (by kernel_rfl) (by kernel_rfl) (by intros; kernel_rfl) ?_
  intro p10 q10 ap10
  obtain ⟨B, eB⟩ : ∃ B, B = A9 ++ [(I.tb.length : Int)] := ⟨_, rfl⟩
  have lB : B.length ≤ 27 := by rw [eB, List.length_append, show [(I.tb.length : Int)].length = 1 from rfl]; omega
  refine holds_env (ρ' := ⟨imI I, [], [], [I.mem.length, c1, I.tb.length, c2, A1.length, q1, A2.length, q2, A3.length, q3, A4.length, q4, A5.length, q5, A6.length, q6, A7.length, q7, A8.length, q8, A9.length, q9, B.length, q10], [a1, a2, p1, p2, p3, p4, p5, p6, p7, p8, p9, p10]⟩) (by rw [eB, List.length_append]; kernel_rfl) ?_
  rw [← eB] at ap10 ⊢
  have hnums : numsI I = B ++ I.tb.flatMap sesN := by rw [eB, eA9, eA8, eA7, eA6, eA5, eA4, eA3, eA2, eA1, eA0]; unfold numsI rgs; simp only [List.append_assoc, List.cons_append, List.nil_append]
  refine loop_i (rNI w B I.tb) (fun vs => I.tb.length - (vs.i.headD 0).toNat) (fun ids w2 hp hf => ⟨_, ⟨hf.x, hf.sep⟩, 0, p10, q10, Nat.zero_le _, by rw [List.take_zero, List.flatMap_nil, List.append_nil]; exact ap10, by rw [List.take_zero, List.flatMap_nil, List.append_nil]; kernel_rfl, by rw [List.take_zero, List.flatMap_nil, List.append_nil]⟩) ?_
  rintro vs hx' hcnt ⟨k, pa, pc, hk, hap, rfl, rfl⟩
  obtain ⟨D, eD⟩ : ∃ D, D = B ++ (I.tb.take k).flatMap sesN := ⟨_, rfl⟩
  rw [← eD] at hap hcnt ⊢
  have hkl : ∀ n, ((I.tb.take n).flatMap sesN).length ≤ 35 * 16 := fun n => by
    have := sesN_flat_len (t := I.tb.take n) fun s hs => (hI.tb.each s (List.mem_of_mem_take hs)).len
    have h2 := hI.fit.2
    rw [List.length_take] at this; omega
  have lD : D.length ≤ 600 := by rw [eD, List.length_append]; have := hkl k; omega
  refine holds_env (ρ' := ⟨imI I ++ [(k : Int)], [], [], [I.mem.length, c1, I.tb.length, c2, A1.length, q1, A2.length, q2, A3.length, q3, A4.length, q4, A5.length, q5, A6.length, q6, A7.length, q7, A8.length, q8, A9.length, q9, B.length, q10, D.length, pc], [a1, a2, p1, p2, p3, p4, p5, p6, p7, p8, p9, p10, pa]⟩) (by kernel_rfl) ?_
  have hesl : es.length = I.tb.length := H.len
  by_cases hlt : k < I.tb.length
  case' neg =>
    refine br_F (decide ((k : Int) < (I.tb.length : Int))) (by kernel_rfl) (decide_eq_false (by omega)) ?_
    have hfin : D = numsI I := by rw [hnums, eD, List.take_of_length_le (by omega)]
    rw [← hfin]
    have hD64 : ∀ x ∈ D, I64 x := by rw [hfin]; exact hN
    refine loop_i (rBI w (HX.nil.and (mrow pa pc D)) (0 < D.length → pa.isSome = true) D) (fun vs => D.length - (vs.i.headD 0).toNat) (fun ids w2 hp hf => ⟨(HX.nil.and (mrow pa pc D)).and (frow (some ⟨idAt ids 11, 0, none⟩) 0 []), ⟨⟨hf.x, HX.rw_nil _ _ _ _⟩, fun j hj => hj.elim (fun z => hf.sep j z) (fun z => absurd rfl z.1)⟩, 0, some ⟨idAt ids 11, 0, none⟩, 0, Nat.zero_le _, (fun h0 => mrow_some hf.x.2 h0), (fun z hz => absurd rfl hz.1), by rw [List.take_zero]; kernel_rfl, by rw [List.take_zero]; rfl⟩) ?_
    rintro vs hx' hcnt2 ⟨j, ba, bc, hj, hS, hapb, rfl, rfl⟩
    obtain ⟨G, eG⟩ : ∃ G, G = intsL (D.take j) := ⟨_, rfl⟩
    rw [← eG] at hapb hcnt2 ⊢
    have lG : G.length ≤ 9 * 600 := by
      have := intsL_len (l := D.take j) fun x hx => hD64 x (List.mem_of_mem_take hx)
      rw [List.length_take] at this
      rw [eG]; omega
    refine holds_env (ρ' := ⟨imI I ++ [(k : Int), (j : Int)], [], [], [I.mem.length, c1, I.tb.length, c2, A1.length, q1, A2.length, q2, A3.length, q3, A4.length, q4, A5.length, q5, A6.length, q6, A7.length, q7, A8.length, q8, A9.length, q9, B.length, q10, D.length, pc, G.length, bc], [a1, a2, p1, p2, p3, p4, p5, p6, p7, p8, p9, p10, pa, ba]⟩) (by kernel_rfl) ?_
    by_cases hltj : j < D.length
    case' neg =>
      refine br_F (decide ((j : Int) < (D.length : Int))) (by kernel_rfl) (decide_eq_false (by omega)) ?_
      have hGD : G = intsL D := by rw [eG, List.take_of_length_le (by omega)]
      rw [← hGD]
      intro ids w2 hp hf
      exact ⟨ba, bc, by kernel_rfl, hf.x.2, fun q h1 h2 => (hapb q ⟨h1, h2⟩).1, hf.chg.below⟩
    refine br_T (decide ((j : Int) < (D.length : Int))) (by kernel_rfl) (decide_eq_true (by omega)) ?_
    obtain ⟨x, hx⟩ : ∃ x, D[j]? = some x := ⟨_, List.getElem?_eq_getElem hltj⟩
    have hx64 : I64 x := hD64 x (List.mem_of_getElem? hx)
    have hget : ∀ i u, [Value.int .i64 x][i]? = some u → (D.map (Value.int .i64))[j * 1 + i]? = some u := fun i u hi => by
      cases i with
      | zero =>
        simp only [List.getElem?_cons_zero, Option.some.injEq] at hi
        rw [Nat.mul_one, Nat.add_zero, List.getElem?_map, hx, ← hi]; rfl
      | succ n => simp at hi
    have hpas := hS (by omega)
    refine need_k (pa.isSome = true ∧ (0 : Int) ≤ j ∧ (j : Int) < D.length) (by kernel_rfl) ⟨hpas, by omega, by omega⟩ ?_
    refine node_ldk ⟨[x], [], [], [], []⟩ (fun _ => .pointer (some (((pa.getD ⟨0, 0, none⟩).add (j * 1)).add 0))) [.int .i64 x] (by intros; kernel_rfl) (by intros; kernel_rfl) (fun ids w2 hp hf => (cl_elt (rw_cells hf.x.1.2) [.int .i64 x] hget (by simp)).2 _ id) (by kernel_rfl) oneNil ?_
    refine node_newi (V := id) (bs := numB (foldN x)) (fun _ => #[.int .i64 x]) (fun a' c' => ⟨[], [], [], [(numB (foldN x)).length, c'], [a']⟩) (by intros; kernel_rfl) (fun ids w2 hp hf => qi_any hx64 w2) (by intros; kernel_rfl) (by kernel_rfl) (by kernel_rfl) (by intros; kernel_rfl) (fun _ _ => oneNil) ?_
    intro na nc hna hfr
    have lX : (numB (foldN x)).length ≤ 9 := by
      have := intsL_len (l := [x]) (fun y hy => by rw [List.mem_singleton.1 hy]; exact hx64)
      have e : intsL [x] = numB (foldN x) := by unfold intsL; simp
      rw [e] at this; simpa using this
    have hGn : G ++ numB (foldN x) = intsL (D.take (j + 1)) := by
      rw [List.take_add_one, hx, ← intsL_app, ← eG]
      congr 1
      unfold intsL; simp
    refine node_appends (z := .int .u8 0) (sz := 1) (bytes := 1) (rest := HX.nil.and (mrow pa pc D)) rfl Try.underlying65 info_byte rfl (by decide) ba G.length bc (bcells G) (fun _ => na) (numB (foldN x)).length nc (bcells (numB (foldN x))) (by rw [bcells_len, Nat.mul_one]) (fun ids w2 hp hf => hf.x.1.2) (fun ids w2 hp hf => frow_cells hf.x.2) (bcells_one _) (fun w2 hX => ⟨hX.1.1, fun q hq => .inl (.inl hq)⟩) (fun q h1 h2 => .inl (.inr ⟨h1, h2⟩)) (fun q h1 h2 hF => (hapb q ⟨h1, h2⟩).2 hF) (fun q h1 h2 => .inl (hapb q ⟨h1, h2⟩).1) (by simp only [maxLen]; omega) (by omega) (by intros; kernel_rfl) (by intros; kernel_rfl) (by intros; kernel_rfl) (by kernel_rfl) (by kernel_rfl) (by intros; kernel_rfl) ?_
    intro ga gc _ hgd hgw
    have hwj : IntKind.i64.wrap ((j : Int) + 1) = ((j + 1 : Nat) : Int) := by rw [wrap_i64 (by omega)]; omega
    have hfe : HX.rw 1 5 ga (G.length + (numB (foldN x)).length) gc (bcells G ++ bcells (numB (foldN x))) = frow ga gc (G ++ numB (foldN x)) := by
      unfold frow bcells; rw [List.length_append, List.map_append]
    rw [hfe]
    have hapn : Apart w (HX.nil.and (mrow pa pc D)) (frow ga gc (G ++ numB (foldN x))) := fun q hq => ⟨by
      rcases hgw q hq.1 hq.2 with ⟨z1, z2⟩ | ⟨z1, z2⟩
      · exact (hapb q ⟨z1, z2⟩).1
      · exact z1, hgd q hq.1 hq.2⟩
    refine again_V ⟨[((j + 1 : Nat) : Int)], [], [], [(G ++ numB (foldN x)).length, gc], [ga]⟩ rfl (fun ids => Eq.trans (b := ⟨[IntKind.i64.wrap ((j : Int) + 1)], [], [], [G.length + (numB (foldN x)).length, gc], [ga]⟩) (by kernel_rfl) (by rw [hwj, List.length_append])) _ (fun w2 ids hf => ⟨hf.x, hf.sep⟩) ⟨⟨j + 1, ga, gc, hltj, hS, by rw [← hGn]; exact hapn, by rw [← hGn], by rw [← hGn]⟩, ?_⟩
    show D.length - (((j + 1 : Nat) : Int)).toNat < D.length - ((j : Int)).toNat
    omega
  refine br_T (decide ((k : Int) < (I.tb.length : Int))) (by kernel_rfl) (decide_eq_true (by omega)) ?_
  obtain ⟨e, he⟩ : ∃ e, es[k]? = some e := ⟨_, List.getElem?_eq_getElem (by omega)⟩
  have hes : I.tb[k]? = some e.s := by rw [← H.tb, List.getElem?_map, he]; rfl
  have hem := List.mem_of_getElem? he
  have hsm := List.mem_of_getElem? hes
  have hk8 := (hI.tb.each e.s hsm).len
  refine need_k (a2.isSome = true ∧ (0 : Int) ≤ k ∧ (k : Int) < I.tb.length) (by kernel_rfl) ⟨se_sm H.tab.row he, by omega, by omega⟩ ?_
  refine node_ld0 (k := ⟨19, 0, 0, 26, 13⟩) ⟨[e.s.no, e.s.ack], [], [], [e.s.kept.length, e.c], [e.a]⟩ (.pointer (some (((a2.getD ⟨0, 0, none⟩).add (k * 3)).add 0))) e.cells (by intros; kernel_rfl) (by intros; kernel_rfl) (se_all k he H.tab.row) ⟨by kernel_rfl, oneNil⟩ (by kernel_rfl) oneNil ?_
  refine node_iapp rfl rfl pa pc D [e.s.no, e.s.ack, (e.s.kept.length : Int)] (fun ids => some ⟨idAt ids 12, 0, none⟩) 3 (by intros; kernel_rfl) (by intros; kernel_rfl) (fun ids w2 hp hf => lit_cl hf 12 rfl (by intros; kernel_rfl)) hap (by rw [show [e.s.no, e.s.ack, (e.s.kept.length : Int)].length = 3 from rfl]; omega) (by intros; kernel_rfl) (by kernel_rfl) (by kernel_rfl) (by intros; kernel_rfl) ?_
  intro pe qe ape
  obtain ⟨E, eE⟩ : ∃ E, E = D ++ [e.s.no, e.s.ack, (e.s.kept.length : Int)] := ⟨_, rfl⟩
  have lE : E.length ≤ 603 := by rw [eE, List.length_append, show [e.s.no, e.s.ack, (e.s.kept.length : Int)].length = 3 from rfl]; omega
  obtain ⟨l, el⟩ : ∃ l, l = e.s.kept := ⟨_, rfl⟩
  have hCl : Cells w e.a (kcells l) := by rw [el]; exact H.tab.each e hem
  refine holds_env (ρ' := ⟨imI I ++ [(k : Int), e.s.no, e.s.ack], [], [], [I.mem.length, c1, I.tb.length, c2, A1.length, q1, A2.length, q2, A3.length, q3, A4.length, q4, A5.length, q5, A6.length, q6, A7.length, q7, A8.length, q8, A9.length, q9, B.length, q10, D.length, pc, l.length, e.c, E.length, qe], [a1, a2, p1, p2, p3, p4, p5, p6, p7, p8, p9, p10, pa, e.a, pe]⟩) (by rw [el, eE, List.length_append]; kernel_rfl) ?_
  rw [← eE] at ape ⊢
  refine loop_i (rKI w E l) (fun vs => l.length - (vs.i.headD 0).toNat) (fun ids w2 hp hf => ⟨_, ⟨hf.x, hf.sep⟩, 0, pe, qe, Nat.zero_le _, by rw [List.take_zero, List.flatMap_nil, List.append_nil]; exact ape, by rw [List.take_zero, List.flatMap_nil, List.append_nil]; kernel_rfl, by rw [List.take_zero, List.flatMap_nil, List.append_nil]⟩) ?_
  rintro vs hx' hcnt2 ⟨j, pa2, pc2, hj, hap2, rfl, rfl⟩
  obtain ⟨G, eG⟩ : ∃ G, G = E ++ (l.take j).flatMap kpN := ⟨_, rfl⟩
  rw [← eG] at hap2 hcnt2 ⊢
  have lG : G.length ≤ 640 := by
    rw [eG, List.length_append, kpN_flat_len, List.length_take]
    rw [← el] at hk8; omega
  refine holds_env (ρ' := ⟨imI I ++ [(k : Int), e.s.no, e.s.ack, (j : Int)], [], [], [I.mem.length, c1, I.tb.length, c2, A1.length, q1, A2.length, q2, A3.length, q3, A4.length, q4, A5.length, q5, A6.length, q6, A7.length, q7, A8.length, q8, A9.length, q9, B.length, q10, D.length, pc, l.length, e.c, E.length, qe, G.length, pc2], [a1, a2, p1, p2, p3, p4, p5, p6, p7, p8, p9, p10, pa, e.a, pe, pa2]⟩) (by kernel_rfl) ?_
  by_cases hltj : j < l.length
  case' neg =>
    refine br_F (decide ((j : Int) < (l.length : Int))) (by kernel_rfl) (decide_eq_false (by omega)) ?_
    have hwk : IntKind.i64.wrap ((k : Int) + 1) = ((k + 1 : Nat) : Int) := by rw [wrap_i64 (by have := hI.fit.2; omega)]; omega
    have hGn : G = B ++ (I.tb.take (k + 1)).flatMap sesN := by
      rw [flat_take sesN hes, ← List.append_assoc, ← eD, eG, eE, List.take_of_length_le (by omega), el]
      unfold sesN
      simp only [List.append_assoc]
    refine again_V ⟨[((k + 1 : Nat) : Int)], [], [], [G.length, pc2], [pa2]⟩ rfl (fun ids => Eq.trans (b := ⟨[IntKind.i64.wrap ((k : Int) + 1)], [], [], [G.length, pc2], [pa2]⟩) (by kernel_rfl) (by rw [hwk])) _ (fun w2 ids hf => ⟨hf.x, hf.sep⟩) ⟨⟨k + 1, pa2, pc2, hlt, by rw [← hGn]; exact hap2, by rw [← hGn], by rw [← hGn]⟩, ?_⟩
    show I.tb.length - (((k + 1 : Nat) : Int)).toNat < I.tb.length - ((k : Int)).toNat
    omega
  refine br_T (decide ((j : Int) < (l.length : Int))) (by kernel_rfl) (decide_eq_true (by omega)) ?_
  obtain ⟨x, hx⟩ : ∃ x, l[j]? = some x := ⟨_, List.getElem?_eq_getElem hltj⟩
  have hnd : e.a.isSome = true ∧ (0 : Int) ≤ j ∧ (j : Int) < l.length := ⟨kp_sm hCl hx, by omega, by omega⟩
  refine need_k (e.a.isSome = true ∧ (0 : Int) ≤ j ∧ (j : Int) < l.length) (by kernel_rfl) hnd ?_
  refine need_k (e.a.isSome = true ∧ (0 : Int) ≤ j ∧ (j : Int) < l.length) (by kernel_rfl) hnd ?_
  refine need_k (e.a.isSome = true ∧ (0 : Int) ≤ j ∧ (j : Int) < l.length) (by kernel_rfl) hnd ?_
  refine need_k (e.a.isSome = true ∧ (0 : Int) ≤ j ∧ (j : Int) < l.length) (by kernel_rfl) hnd ?_
  have hGn : G ++ kpN x = E ++ (l.take (j + 1)).flatMap kpN := by rw [flat_take kpN hx, ← List.append_assoc, ← eG]
  have hwj : IntKind.i64.wrap ((j : Int) + 1) = ((j + 1 : Nat) : Int) := by rw [wrap_i64 (by rw [← el] at hk8; omega)]; omega
  have l4 : (kpN x).length = 4 := rfl
  have ld0 := kp_fld j 0 _ hx rfl hCl
  have ld1 := kp_fld j 1 _ hx rfl hCl
  have ld2 := kp_fld j 2 _ hx rfl hCl
  have ld3 := kp_fld j 3 _ hx rfl hCl

  have hlast : l.length - (((j + 1 : Nat) : Int)).toNat < l.length - ((j : Int)).toNat := by omega
  all_goals refine par_i ?_ (par_i ?_ (par_i ?_ ?_))
  refine node_ld0 (k := ⟨22, 0, 0, 32, 16⟩) ⟨[x.seq], [], [], [], []⟩ (.pointer (some (((e.a.getD ⟨0, 0, none⟩).add (j * 4)).add 0))) [.int .i64 x.seq] (by intros; kernel_rfl) (by intros; kernel_rfl) ld0 ⟨by kernel_rfl, oneNil⟩ (by kernel_rfl) oneNil ?_
  rotate_left
  refine node_ld0 (k := ⟨22, 0, 0, 32, 16⟩) ⟨[x.kind], [], [], [], []⟩ (.pointer (some (((e.a.getD ⟨0, 0, none⟩).add (j * 4)).add 1))) [.int .i64 x.kind] (by intros; kernel_rfl) (by intros; kernel_rfl) ld1 ⟨by kernel_rfl, oneNil⟩ (by kernel_rfl) oneNil ?_
  rotate_left
  refine node_ld0 (k := ⟨22, 0, 0, 32, 16⟩) ⟨[x.re], [], [], [], []⟩ (.pointer (some (((e.a.getD ⟨0, 0, none⟩).add (j * 4)).add 2))) [.int .i64 x.re] (by intros; kernel_rfl) (by intros; kernel_rfl) ld2 ⟨by kernel_rfl, oneNil⟩ (by kernel_rfl) oneNil ?_
  rotate_left
  refine node_ld0 (k := ⟨22, 0, 0, 32, 16⟩) ⟨[x.im], [], [], [], []⟩ (.pointer (some (((e.a.getD ⟨0, 0, none⟩).add (j * 4)).add 3))) [.int .i64 x.im] (by intros; kernel_rfl) (by intros; kernel_rfl) ld3 ⟨by kernel_rfl, oneNil⟩ (by kernel_rfl) oneNil ?_
  rotate_left
  all_goals refine par_i ?_ (par_i ?_ ?_)
  refine node_ld0 (k := ⟨23, 0, 0, 32, 16⟩) ⟨[x.kind], [], [], [], []⟩ (.pointer (some (((e.a.getD ⟨0, 0, none⟩).add (j * 4)).add 1))) [.int .i64 x.kind] (by intros; kernel_rfl) (by intros; kernel_rfl) ld1 ⟨by kernel_rfl, oneNil⟩ (by kernel_rfl) oneNil ?_
  rotate_left
  refine node_ld0 (k := ⟨23, 0, 0, 32, 16⟩) ⟨[x.re], [], [], [], []⟩ (.pointer (some (((e.a.getD ⟨0, 0, none⟩).add (j * 4)).add 2))) [.int .i64 x.re] (by intros; kernel_rfl) (by intros; kernel_rfl) ld2 ⟨by kernel_rfl, oneNil⟩ (by kernel_rfl) oneNil ?_
  rotate_left
  refine node_ld0 (k := ⟨23, 0, 0, 32, 16⟩) ⟨[x.im], [], [], [], []⟩ (.pointer (some (((e.a.getD ⟨0, 0, none⟩).add (j * 4)).add 3))) [.int .i64 x.im] (by intros; kernel_rfl) (by intros; kernel_rfl) ld3 ⟨by kernel_rfl, oneNil⟩ (by kernel_rfl) oneNil ?_
  rotate_left
  refine node_ld0 (k := ⟨23, 0, 0, 32, 16⟩) ⟨[x.seq], [], [], [], []⟩ (.pointer (some (((e.a.getD ⟨0, 0, none⟩).add (j * 4)).add 0))) [.int .i64 x.seq] (by intros; kernel_rfl) (by intros; kernel_rfl) ld0 ⟨by kernel_rfl, oneNil⟩ (by kernel_rfl) oneNil ?_
  rotate_left
  refine node_ld0 (k := ⟨23, 0, 0, 32, 16⟩) ⟨[x.re], [], [], [], []⟩ (.pointer (some (((e.a.getD ⟨0, 0, none⟩).add (j * 4)).add 2))) [.int .i64 x.re] (by intros; kernel_rfl) (by intros; kernel_rfl) ld2 ⟨by kernel_rfl, oneNil⟩ (by kernel_rfl) oneNil ?_
  rotate_left
  refine node_ld0 (k := ⟨23, 0, 0, 32, 16⟩) ⟨[x.im], [], [], [], []⟩ (.pointer (some (((e.a.getD ⟨0, 0, none⟩).add (j * 4)).add 3))) [.int .i64 x.im] (by intros; kernel_rfl) (by intros; kernel_rfl) ld3 ⟨by kernel_rfl, oneNil⟩ (by kernel_rfl) oneNil ?_
  rotate_left
  refine node_ld0 (k := ⟨23, 0, 0, 32, 16⟩) ⟨[x.seq], [], [], [], []⟩ (.pointer (some (((e.a.getD ⟨0, 0, none⟩).add (j * 4)).add 0))) [.int .i64 x.seq] (by intros; kernel_rfl) (by intros; kernel_rfl) ld0 ⟨by kernel_rfl, oneNil⟩ (by kernel_rfl) oneNil ?_
  rotate_left
  refine node_ld0 (k := ⟨23, 0, 0, 32, 16⟩) ⟨[x.kind], [], [], [], []⟩ (.pointer (some (((e.a.getD ⟨0, 0, none⟩).add (j * 4)).add 1))) [.int .i64 x.kind] (by intros; kernel_rfl) (by intros; kernel_rfl) ld1 ⟨by kernel_rfl, oneNil⟩ (by kernel_rfl) oneNil ?_
  rotate_left
  refine node_ld0 (k := ⟨23, 0, 0, 32, 16⟩) ⟨[x.im], [], [], [], []⟩ (.pointer (some (((e.a.getD ⟨0, 0, none⟩).add (j * 4)).add 3))) [.int .i64 x.im] (by intros; kernel_rfl) (by intros; kernel_rfl) ld3 ⟨by kernel_rfl, oneNil⟩ (by kernel_rfl) oneNil ?_
  rotate_left
  refine node_ld0 (k := ⟨23, 0, 0, 32, 16⟩) ⟨[x.seq], [], [], [], []⟩ (.pointer (some (((e.a.getD ⟨0, 0, none⟩).add (j * 4)).add 0))) [.int .i64 x.seq] (by intros; kernel_rfl) (by intros; kernel_rfl) ld0 ⟨by kernel_rfl, oneNil⟩ (by kernel_rfl) oneNil ?_
  rotate_left
  refine node_ld0 (k := ⟨23, 0, 0, 32, 16⟩) ⟨[x.kind], [], [], [], []⟩ (.pointer (some (((e.a.getD ⟨0, 0, none⟩).add (j * 4)).add 1))) [.int .i64 x.kind] (by intros; kernel_rfl) (by intros; kernel_rfl) ld1 ⟨by kernel_rfl, oneNil⟩ (by kernel_rfl) oneNil ?_
  rotate_left
  refine node_ld0 (k := ⟨23, 0, 0, 32, 16⟩) ⟨[x.re], [], [], [], []⟩ (.pointer (some (((e.a.getD ⟨0, 0, none⟩).add (j * 4)).add 2))) [.int .i64 x.re] (by intros; kernel_rfl) (by intros; kernel_rfl) ld2 ⟨by kernel_rfl, oneNil⟩ (by kernel_rfl) oneNil ?_
  rotate_left
  all_goals refine par_i ?_ ?_
  refine node_ld0 (k := ⟨24, 0, 0, 32, 16⟩) ⟨[x.re], [], [], [], []⟩ (.pointer (some (((e.a.getD ⟨0, 0, none⟩).add (j * 4)).add 2))) [.int .i64 x.re] (by intros; kernel_rfl) (by intros; kernel_rfl) ld2 ⟨by kernel_rfl, oneNil⟩ (by kernel_rfl) oneNil ?_
  rotate_left
  refine node_ld0 (k := ⟨24, 0, 0, 32, 16⟩) ⟨[x.im], [], [], [], []⟩ (.pointer (some (((e.a.getD ⟨0, 0, none⟩).add (j * 4)).add 3))) [.int .i64 x.im] (by intros; kernel_rfl) (by intros; kernel_rfl) ld3 ⟨by kernel_rfl, oneNil⟩ (by kernel_rfl) oneNil ?_
  rotate_left
  refine node_ld0 (k := ⟨24, 0, 0, 32, 16⟩) ⟨[x.kind], [], [], [], []⟩ (.pointer (some (((e.a.getD ⟨0, 0, none⟩).add (j * 4)).add 1))) [.int .i64 x.kind] (by intros; kernel_rfl) (by intros; kernel_rfl) ld1 ⟨by kernel_rfl, oneNil⟩ (by kernel_rfl) oneNil ?_
  rotate_left
  refine node_ld0 (k := ⟨24, 0, 0, 32, 16⟩) ⟨[x.im], [], [], [], []⟩ (.pointer (some (((e.a.getD ⟨0, 0, none⟩).add (j * 4)).add 3))) [.int .i64 x.im] (by intros; kernel_rfl) (by intros; kernel_rfl) ld3 ⟨by kernel_rfl, oneNil⟩ (by kernel_rfl) oneNil ?_
  rotate_left
  refine node_ld0 (k := ⟨24, 0, 0, 32, 16⟩) ⟨[x.kind], [], [], [], []⟩ (.pointer (some (((e.a.getD ⟨0, 0, none⟩).add (j * 4)).add 1))) [.int .i64 x.kind] (by intros; kernel_rfl) (by intros; kernel_rfl) ld1 ⟨by kernel_rfl, oneNil⟩ (by kernel_rfl) oneNil ?_
  rotate_left
  refine node_ld0 (k := ⟨24, 0, 0, 32, 16⟩) ⟨[x.re], [], [], [], []⟩ (.pointer (some (((e.a.getD ⟨0, 0, none⟩).add (j * 4)).add 2))) [.int .i64 x.re] (by intros; kernel_rfl) (by intros; kernel_rfl) ld2 ⟨by kernel_rfl, oneNil⟩ (by kernel_rfl) oneNil ?_
  rotate_left
  refine node_ld0 (k := ⟨24, 0, 0, 32, 16⟩) ⟨[x.re], [], [], [], []⟩ (.pointer (some (((e.a.getD ⟨0, 0, none⟩).add (j * 4)).add 2))) [.int .i64 x.re] (by intros; kernel_rfl) (by intros; kernel_rfl) ld2 ⟨by kernel_rfl, oneNil⟩ (by kernel_rfl) oneNil ?_
  rotate_left
  refine node_ld0 (k := ⟨24, 0, 0, 32, 16⟩) ⟨[x.im], [], [], [], []⟩ (.pointer (some (((e.a.getD ⟨0, 0, none⟩).add (j * 4)).add 3))) [.int .i64 x.im] (by intros; kernel_rfl) (by intros; kernel_rfl) ld3 ⟨by kernel_rfl, oneNil⟩ (by kernel_rfl) oneNil ?_
  rotate_left
  refine node_ld0 (k := ⟨24, 0, 0, 32, 16⟩) ⟨[x.seq], [], [], [], []⟩ (.pointer (some (((e.a.getD ⟨0, 0, none⟩).add (j * 4)).add 0))) [.int .i64 x.seq] (by intros; kernel_rfl) (by intros; kernel_rfl) ld0 ⟨by kernel_rfl, oneNil⟩ (by kernel_rfl) oneNil ?_
  rotate_left
  refine node_ld0 (k := ⟨24, 0, 0, 32, 16⟩) ⟨[x.im], [], [], [], []⟩ (.pointer (some (((e.a.getD ⟨0, 0, none⟩).add (j * 4)).add 3))) [.int .i64 x.im] (by intros; kernel_rfl) (by intros; kernel_rfl) ld3 ⟨by kernel_rfl, oneNil⟩ (by kernel_rfl) oneNil ?_
  rotate_left
  refine node_ld0 (k := ⟨24, 0, 0, 32, 16⟩) ⟨[x.seq], [], [], [], []⟩ (.pointer (some (((e.a.getD ⟨0, 0, none⟩).add (j * 4)).add 0))) [.int .i64 x.seq] (by intros; kernel_rfl) (by intros; kernel_rfl) ld0 ⟨by kernel_rfl, oneNil⟩ (by kernel_rfl) oneNil ?_
  rotate_left
  refine node_ld0 (k := ⟨24, 0, 0, 32, 16⟩) ⟨[x.re], [], [], [], []⟩ (.pointer (some (((e.a.getD ⟨0, 0, none⟩).add (j * 4)).add 2))) [.int .i64 x.re] (by intros; kernel_rfl) (by intros; kernel_rfl) ld2 ⟨by kernel_rfl, oneNil⟩ (by kernel_rfl) oneNil ?_
  rotate_left
  refine node_ld0 (k := ⟨24, 0, 0, 32, 16⟩) ⟨[x.kind], [], [], [], []⟩ (.pointer (some (((e.a.getD ⟨0, 0, none⟩).add (j * 4)).add 1))) [.int .i64 x.kind] (by intros; kernel_rfl) (by intros; kernel_rfl) ld1 ⟨by kernel_rfl, oneNil⟩ (by kernel_rfl) oneNil ?_
  rotate_left
  refine node_ld0 (k := ⟨24, 0, 0, 32, 16⟩) ⟨[x.im], [], [], [], []⟩ (.pointer (some (((e.a.getD ⟨0, 0, none⟩).add (j * 4)).add 3))) [.int .i64 x.im] (by intros; kernel_rfl) (by intros; kernel_rfl) ld3 ⟨by kernel_rfl, oneNil⟩ (by kernel_rfl) oneNil ?_
  rotate_left
  refine node_ld0 (k := ⟨24, 0, 0, 32, 16⟩) ⟨[x.seq], [], [], [], []⟩ (.pointer (some (((e.a.getD ⟨0, 0, none⟩).add (j * 4)).add 0))) [.int .i64 x.seq] (by intros; kernel_rfl) (by intros; kernel_rfl) ld0 ⟨by kernel_rfl, oneNil⟩ (by kernel_rfl) oneNil ?_
  rotate_left
  refine node_ld0 (k := ⟨24, 0, 0, 32, 16⟩) ⟨[x.im], [], [], [], []⟩ (.pointer (some (((e.a.getD ⟨0, 0, none⟩).add (j * 4)).add 3))) [.int .i64 x.im] (by intros; kernel_rfl) (by intros; kernel_rfl) ld3 ⟨by kernel_rfl, oneNil⟩ (by kernel_rfl) oneNil ?_
  rotate_left
  refine node_ld0 (k := ⟨24, 0, 0, 32, 16⟩) ⟨[x.seq], [], [], [], []⟩ (.pointer (some (((e.a.getD ⟨0, 0, none⟩).add (j * 4)).add 0))) [.int .i64 x.seq] (by intros; kernel_rfl) (by intros; kernel_rfl) ld0 ⟨by kernel_rfl, oneNil⟩ (by kernel_rfl) oneNil ?_
  rotate_left
  refine node_ld0 (k := ⟨24, 0, 0, 32, 16⟩) ⟨[x.kind], [], [], [], []⟩ (.pointer (some (((e.a.getD ⟨0, 0, none⟩).add (j * 4)).add 1))) [.int .i64 x.kind] (by intros; kernel_rfl) (by intros; kernel_rfl) ld1 ⟨by kernel_rfl, oneNil⟩ (by kernel_rfl) oneNil ?_
  rotate_left
  refine node_ld0 (k := ⟨24, 0, 0, 32, 16⟩) ⟨[x.kind], [], [], [], []⟩ (.pointer (some (((e.a.getD ⟨0, 0, none⟩).add (j * 4)).add 1))) [.int .i64 x.kind] (by intros; kernel_rfl) (by intros; kernel_rfl) ld1 ⟨by kernel_rfl, oneNil⟩ (by kernel_rfl) oneNil ?_
  rotate_left
  refine node_ld0 (k := ⟨24, 0, 0, 32, 16⟩) ⟨[x.re], [], [], [], []⟩ (.pointer (some (((e.a.getD ⟨0, 0, none⟩).add (j * 4)).add 2))) [.int .i64 x.re] (by intros; kernel_rfl) (by intros; kernel_rfl) ld2 ⟨by kernel_rfl, oneNil⟩ (by kernel_rfl) oneNil ?_
  rotate_left
  refine node_ld0 (k := ⟨24, 0, 0, 32, 16⟩) ⟨[x.seq], [], [], [], []⟩ (.pointer (some (((e.a.getD ⟨0, 0, none⟩).add (j * 4)).add 0))) [.int .i64 x.seq] (by intros; kernel_rfl) (by intros; kernel_rfl) ld0 ⟨by kernel_rfl, oneNil⟩ (by kernel_rfl) oneNil ?_
  rotate_left
  refine node_ld0 (k := ⟨24, 0, 0, 32, 16⟩) ⟨[x.re], [], [], [], []⟩ (.pointer (some (((e.a.getD ⟨0, 0, none⟩).add (j * 4)).add 2))) [.int .i64 x.re] (by intros; kernel_rfl) (by intros; kernel_rfl) ld2 ⟨by kernel_rfl, oneNil⟩ (by kernel_rfl) oneNil ?_
  rotate_left
  refine node_ld0 (k := ⟨24, 0, 0, 32, 16⟩) ⟨[x.seq], [], [], [], []⟩ (.pointer (some (((e.a.getD ⟨0, 0, none⟩).add (j * 4)).add 0))) [.int .i64 x.seq] (by intros; kernel_rfl) (by intros; kernel_rfl) ld0 ⟨by kernel_rfl, oneNil⟩ (by kernel_rfl) oneNil ?_
  rotate_left
  refine node_ld0 (k := ⟨24, 0, 0, 32, 16⟩) ⟨[x.kind], [], [], [], []⟩ (.pointer (some (((e.a.getD ⟨0, 0, none⟩).add (j * 4)).add 1))) [.int .i64 x.kind] (by intros; kernel_rfl) (by intros; kernel_rfl) ld1 ⟨by kernel_rfl, oneNil⟩ (by kernel_rfl) oneNil ?_
  rotate_left
  refine node_ld0 (k := ⟨25, 0, 0, 32, 16⟩) ⟨[x.im], [], [], [], []⟩ (.pointer (some (((e.a.getD ⟨0, 0, none⟩).add (j * 4)).add 3))) [.int .i64 x.im] (by intros; kernel_rfl) (by intros; kernel_rfl) ld3 ⟨by kernel_rfl, oneNil⟩ (by kernel_rfl) oneNil ?_
  rotate_left
  refine node_ld0 (k := ⟨25, 0, 0, 32, 16⟩) ⟨[x.re], [], [], [], []⟩ (.pointer (some (((e.a.getD ⟨0, 0, none⟩).add (j * 4)).add 2))) [.int .i64 x.re] (by intros; kernel_rfl) (by intros; kernel_rfl) ld2 ⟨by kernel_rfl, oneNil⟩ (by kernel_rfl) oneNil ?_
  rotate_left
  refine node_ld0 (k := ⟨25, 0, 0, 32, 16⟩) ⟨[x.im], [], [], [], []⟩ (.pointer (some (((e.a.getD ⟨0, 0, none⟩).add (j * 4)).add 3))) [.int .i64 x.im] (by intros; kernel_rfl) (by intros; kernel_rfl) ld3 ⟨by kernel_rfl, oneNil⟩ (by kernel_rfl) oneNil ?_
  rotate_left
  refine node_ld0 (k := ⟨25, 0, 0, 32, 16⟩) ⟨[x.kind], [], [], [], []⟩ (.pointer (some (((e.a.getD ⟨0, 0, none⟩).add (j * 4)).add 1))) [.int .i64 x.kind] (by intros; kernel_rfl) (by intros; kernel_rfl) ld1 ⟨by kernel_rfl, oneNil⟩ (by kernel_rfl) oneNil ?_
  rotate_left
  refine node_ld0 (k := ⟨25, 0, 0, 32, 16⟩) ⟨[x.re], [], [], [], []⟩ (.pointer (some (((e.a.getD ⟨0, 0, none⟩).add (j * 4)).add 2))) [.int .i64 x.re] (by intros; kernel_rfl) (by intros; kernel_rfl) ld2 ⟨by kernel_rfl, oneNil⟩ (by kernel_rfl) oneNil ?_
  rotate_left
  refine node_ld0 (k := ⟨25, 0, 0, 32, 16⟩) ⟨[x.kind], [], [], [], []⟩ (.pointer (some (((e.a.getD ⟨0, 0, none⟩).add (j * 4)).add 1))) [.int .i64 x.kind] (by intros; kernel_rfl) (by intros; kernel_rfl) ld1 ⟨by kernel_rfl, oneNil⟩ (by kernel_rfl) oneNil ?_
  rotate_left
  refine node_ld0 (k := ⟨25, 0, 0, 32, 16⟩) ⟨[x.im], [], [], [], []⟩ (.pointer (some (((e.a.getD ⟨0, 0, none⟩).add (j * 4)).add 3))) [.int .i64 x.im] (by intros; kernel_rfl) (by intros; kernel_rfl) ld3 ⟨by kernel_rfl, oneNil⟩ (by kernel_rfl) oneNil ?_
  rotate_left
  refine node_ld0 (k := ⟨25, 0, 0, 32, 16⟩) ⟨[x.re], [], [], [], []⟩ (.pointer (some (((e.a.getD ⟨0, 0, none⟩).add (j * 4)).add 2))) [.int .i64 x.re] (by intros; kernel_rfl) (by intros; kernel_rfl) ld2 ⟨by kernel_rfl, oneNil⟩ (by kernel_rfl) oneNil ?_
  rotate_left
  refine node_ld0 (k := ⟨25, 0, 0, 32, 16⟩) ⟨[x.im], [], [], [], []⟩ (.pointer (some (((e.a.getD ⟨0, 0, none⟩).add (j * 4)).add 3))) [.int .i64 x.im] (by intros; kernel_rfl) (by intros; kernel_rfl) ld3 ⟨by kernel_rfl, oneNil⟩ (by kernel_rfl) oneNil ?_
  rotate_left
  refine node_ld0 (k := ⟨25, 0, 0, 32, 16⟩) ⟨[x.seq], [], [], [], []⟩ (.pointer (some (((e.a.getD ⟨0, 0, none⟩).add (j * 4)).add 0))) [.int .i64 x.seq] (by intros; kernel_rfl) (by intros; kernel_rfl) ld0 ⟨by kernel_rfl, oneNil⟩ (by kernel_rfl) oneNil ?_
  rotate_left
  refine node_ld0 (k := ⟨25, 0, 0, 32, 16⟩) ⟨[x.re], [], [], [], []⟩ (.pointer (some (((e.a.getD ⟨0, 0, none⟩).add (j * 4)).add 2))) [.int .i64 x.re] (by intros; kernel_rfl) (by intros; kernel_rfl) ld2 ⟨by kernel_rfl, oneNil⟩ (by kernel_rfl) oneNil ?_
  rotate_left
  refine node_ld0 (k := ⟨25, 0, 0, 32, 16⟩) ⟨[x.seq], [], [], [], []⟩ (.pointer (some (((e.a.getD ⟨0, 0, none⟩).add (j * 4)).add 0))) [.int .i64 x.seq] (by intros; kernel_rfl) (by intros; kernel_rfl) ld0 ⟨by kernel_rfl, oneNil⟩ (by kernel_rfl) oneNil ?_
  rotate_left
  refine node_ld0 (k := ⟨25, 0, 0, 32, 16⟩) ⟨[x.im], [], [], [], []⟩ (.pointer (some (((e.a.getD ⟨0, 0, none⟩).add (j * 4)).add 3))) [.int .i64 x.im] (by intros; kernel_rfl) (by intros; kernel_rfl) ld3 ⟨by kernel_rfl, oneNil⟩ (by kernel_rfl) oneNil ?_
  rotate_left
  refine node_ld0 (k := ⟨25, 0, 0, 32, 16⟩) ⟨[x.kind], [], [], [], []⟩ (.pointer (some (((e.a.getD ⟨0, 0, none⟩).add (j * 4)).add 1))) [.int .i64 x.kind] (by intros; kernel_rfl) (by intros; kernel_rfl) ld1 ⟨by kernel_rfl, oneNil⟩ (by kernel_rfl) oneNil ?_
  rotate_left
  refine node_ld0 (k := ⟨25, 0, 0, 32, 16⟩) ⟨[x.im], [], [], [], []⟩ (.pointer (some (((e.a.getD ⟨0, 0, none⟩).add (j * 4)).add 3))) [.int .i64 x.im] (by intros; kernel_rfl) (by intros; kernel_rfl) ld3 ⟨by kernel_rfl, oneNil⟩ (by kernel_rfl) oneNil ?_
  rotate_left
  refine node_ld0 (k := ⟨25, 0, 0, 32, 16⟩) ⟨[x.seq], [], [], [], []⟩ (.pointer (some (((e.a.getD ⟨0, 0, none⟩).add (j * 4)).add 0))) [.int .i64 x.seq] (by intros; kernel_rfl) (by intros; kernel_rfl) ld0 ⟨by kernel_rfl, oneNil⟩ (by kernel_rfl) oneNil ?_
  rotate_left
  refine node_ld0 (k := ⟨25, 0, 0, 32, 16⟩) ⟨[x.kind], [], [], [], []⟩ (.pointer (some (((e.a.getD ⟨0, 0, none⟩).add (j * 4)).add 1))) [.int .i64 x.kind] (by intros; kernel_rfl) (by intros; kernel_rfl) ld1 ⟨by kernel_rfl, oneNil⟩ (by kernel_rfl) oneNil ?_
  rotate_left
  refine node_ld0 (k := ⟨25, 0, 0, 32, 16⟩) ⟨[x.seq], [], [], [], []⟩ (.pointer (some (((e.a.getD ⟨0, 0, none⟩).add (j * 4)).add 0))) [.int .i64 x.seq] (by intros; kernel_rfl) (by intros; kernel_rfl) ld0 ⟨by kernel_rfl, oneNil⟩ (by kernel_rfl) oneNil ?_
  rotate_left
  refine node_ld0 (k := ⟨25, 0, 0, 32, 16⟩) ⟨[x.re], [], [], [], []⟩ (.pointer (some (((e.a.getD ⟨0, 0, none⟩).add (j * 4)).add 2))) [.int .i64 x.re] (by intros; kernel_rfl) (by intros; kernel_rfl) ld2 ⟨by kernel_rfl, oneNil⟩ (by kernel_rfl) oneNil ?_
  rotate_left
  refine node_ld0 (k := ⟨25, 0, 0, 32, 16⟩) ⟨[x.kind], [], [], [], []⟩ (.pointer (some (((e.a.getD ⟨0, 0, none⟩).add (j * 4)).add 1))) [.int .i64 x.kind] (by intros; kernel_rfl) (by intros; kernel_rfl) ld1 ⟨by kernel_rfl, oneNil⟩ (by kernel_rfl) oneNil ?_
  rotate_left
  refine node_ld0 (k := ⟨25, 0, 0, 32, 16⟩) ⟨[x.re], [], [], [], []⟩ (.pointer (some (((e.a.getD ⟨0, 0, none⟩).add (j * 4)).add 2))) [.int .i64 x.re] (by intros; kernel_rfl) (by intros; kernel_rfl) ld2 ⟨by kernel_rfl, oneNil⟩ (by kernel_rfl) oneNil ?_
  rotate_left
  refine node_ld0 (k := ⟨25, 0, 0, 32, 16⟩) ⟨[x.seq], [], [], [], []⟩ (.pointer (some (((e.a.getD ⟨0, 0, none⟩).add (j * 4)).add 0))) [.int .i64 x.seq] (by intros; kernel_rfl) (by intros; kernel_rfl) ld0 ⟨by kernel_rfl, oneNil⟩ (by kernel_rfl) oneNil ?_
  rotate_left
  refine node_ld0 (k := ⟨25, 0, 0, 32, 16⟩) ⟨[x.kind], [], [], [], []⟩ (.pointer (some (((e.a.getD ⟨0, 0, none⟩).add (j * 4)).add 1))) [.int .i64 x.kind] (by intros; kernel_rfl) (by intros; kernel_rfl) ld1 ⟨by kernel_rfl, oneNil⟩ (by kernel_rfl) oneNil ?_
  rotate_left
  refine node_ld0 (k := ⟨25, 0, 0, 32, 16⟩) ⟨[x.seq], [], [], [], []⟩ (.pointer (some (((e.a.getD ⟨0, 0, none⟩).add (j * 4)).add 0))) [.int .i64 x.seq] (by intros; kernel_rfl) (by intros; kernel_rfl) ld0 ⟨by kernel_rfl, oneNil⟩ (by kernel_rfl) oneNil ?_
  rotate_left
  all_goals
    refine node_iapp rfl rfl pa2 pc2 G (kpN x) (fun ids => some ⟨idAt ids 13, 0, none⟩) 4 (by intros; kernel_rfl) (by intros; kernel_rfl) (fun ids w2 hp hf => lit_cl hf 13 rfl (by intros; kernel_rfl)) hap2 (by omega) (by intros; kernel_rfl) (by kernel_rfl) (by kernel_rfl) (by intros; kernel_rfl) ?_
    intro p3' q3' ap3'
    refine again_V ⟨[((j + 1 : Nat) : Int)], [], [], [(G ++ kpN x).length, q3'], [p3']⟩ rfl (fun ids => Eq.trans (b := ⟨[IntKind.i64.wrap ((j : Int) + 1)], [], [], [G.length + (kpN x).length, q3'], [p3']⟩) (by kernel_rfl) (by rw [hwj, List.length_append])) _ (fun w2 ids hf => ⟨hf.x, hf.sep⟩) ⟨⟨j + 1, p3', q3', hltj, by rw [← hGn]; exact ap3', by rw [← hGn], by rw [← hGn]⟩, hlast⟩
end Go.Proofs.Ytfjiolgdcphjhaa
