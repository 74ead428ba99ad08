/- Part 23 of the texts of a proof about the given program: what the statement's proof needs of them. -/
import Derived.Test.YtbedoemdjlollaaKJudgeLost22
namespace Go.Proofs.Ytbedoemdjlollaa
open Go Go.ChangeShapes Go.WideShapes Go.ChangeAt Go.RowKit Go.Syn Go.Eng
set_option linter.unusedVariables false
set_option linter.unusedSimpArgs false
set_option maxRecDepth 100000
structure SP (m : List Int) (I : Im) (hs : List (Vo Vl)) (L : List It) : Prop where
  ok : imOk I
  sl : I.sl = (hs.length : Int)
  play : ∀ tail, playV (firstI m) [] (hs ++ tail) = playV I (addAll [] L) tail
theorem SI.sp {m : List Int} {I : Im} {hs : List (Vo Vl)} {L : List It} (h : SI m I hs L) : SP m I hs L := ⟨h.ok, h.sl, h.play⟩
theorem SP.step {m : List Int} {I : Im} {hs : List (Vo Vl)} {L : List It} (h : SP m I hs L) {c : CmD} {a : AnD} (ok : ExecOk I (I.sl + 1) (bt c) (execV I (I.sl + 1) (bt c))) (ha : (execV I (I.sl + 1) (bt c)).an = [a]) : SP m (execV I (I.sl + 1) (bt c)).i (hs ++ [⟨I.sl + 1, 0, 0, bt c⟩]) (L ++ [(c, a)]) :=
  ⟨ok.ok, by rw [ok.sl, h.sl, List.length_append]; rfl, fun tail => by
    rw [List.append_assoc, h.play, List.singleton_append]
    rw [playV_c, if_neg (by show ¬ (execV I (I.sl + 1) (bt c)).e ≠ 0; rw [ok.e]; decide)]
    show playV (execV I (I.sl + 1) (bt c)).i (addAll (addAll [] L) ([c].zip (execV I (I.sl + 1) (bt c)).an)) tail = _
    rw [ha, addAll_app]; rfl⟩
theorem vz_zero : valE vz = 0 := by kernel_rfl
theorem SP.noop {m : List Int} {I : Im} {hs : List (Vo Vl)} {L : List It} (h : SP m I hs L) (hs1 : I.sl + 1 ≤ 1099511627776) : SP m (execV I (I.sl + 1) vz).i (hs ++ [⟨I.sl + 1, 0, 0, vz⟩]) L ∧ (execV I (I.sl + 1) vz).i.tb = I.tb := by
  have ok := exec_ok h.ok rfl hs1 (fun q => absurd q (by show ¬ (0 : Int) = 2; decide)) vz_zero (fun x hx => by cases hx)
  refine ⟨⟨ok.ok, by rw [ok.sl, h.sl, List.length_append]; rfl, fun tail => ?_⟩, (ok.rest rfl).2⟩
  rw [List.append_assoc, h.play, List.singleton_append]
  rw [playV_c, if_neg (by show ¬ (execV I (I.sl + 1) vz).e ≠ 0; rw [ok.e]; decide)]
  rfl
theorem SP.check {m : List Int} {I : Im} {hs : List (Vo Vl)} {L : List It} (h : SP m I hs L) (es : List Ev) (loose : Bool) : checkV m hs es loose = chkV (addAll [] L) loose [] 0 es := by
  have := h.play []
  rw [List.append_nil] at this
  unfold checkV
  rw [this]
  unfold playV
  exact if_neg (fun q => q rfl)
theorem Fr.mono {N : Int → Prop} {Q Q' : Int → Int} {t : List SsD} (h : Fr N Q t) (hq : ∀ x, Q x ≤ Q' x) : Fr N Q' t := ⟨h.no, fun s hs => Int.le_trans (h.ack s hs) (hq _), fun s hs k hk => Int.le_trans (h.kept s hs k hk) (hq _)⟩
def QL (n : Nat) (x : Int) : Int := if x ≤ (n : Int) then 1 else 0
theorem QL_up (n : Nat) (x : Int) : QL n x ≤ QL (n + 1) x := by
  unfold QL
  by_cases h : x ≤ (n : Int)
  · rw [if_pos h, if_pos (by omega)]; omega
  · rw [if_neg h]; split <;> omega
structure LoPl (n : Nat) (kk : Int) (I : Im) (hs : List (Vo Vl)) (L : List It) (Ip : Im) (ps : List (Vo Vl)) (Lp : List It) : Prop where
  si : SI [1] I hs L
  sp : SP [1] Ip ps Lp
  fr : Fr (fun _ => True) (QL n) I.tb
  frp : Fr (fun _ => True) (QL n) Ip.tb
  tl : I.tb.length ≤ L.length
  tlp : Ip.tb.length ≤ L.length
  pl : ps.length = hs.length
  keyed : Keyed L
  items : ∀ z ∈ L, 1 ≤ z.1.sess ∧ z.1.sess ≤ (n : Int) ∧ z.1.seq = 1 ∧ z.1.op.kind ≠ 1 ∧ z.2.k ≤ 3
  rel : (Ip = I ∧ Lp = L ∧ ∀ q : Nat, kk = (q : Int) → L.length ≤ q) ∨ ∃ (q : Nat) (M : List It), kk = (q : Int) ∧ q < L.length ∧ Lp = L.take q ++ M ∧ M.map itKey = (L.drop (q + 1)).map itKey
theorem LoPl.nil (kk : Int) (h : setOkB [1] = true) (hm : ∀ x ∈ ([1] : List Int), I64 x) : LoPl 0 kk (firstI [1]) [] [] (firstI [1]) [] [] :=
  have f0 : Fr (fun _ => True) (QL 0) (firstI [1]).tb := ⟨(fun s hs => by cases hs), (fun s hs => by cases hs), (fun s hs => by cases hs)⟩
  ⟨SI.nil h hm, (SI.nil h hm).sp, f0, f0, Nat.le_refl _, Nat.le_refl _, rfl, List.nodup_nil, (fun z hz => by cases hz), .inl ⟨rfl, rfl, fun q _ => Nat.zero_le _⟩⟩
theorem LoPl.more {n : Nat} {kk : Int} {I : Im} {hs : List (Vo Vl)} {L : List It} {Ip : Im} {ps : List (Vo Vl)} {Lp : List It} (h : LoPl n kk I hs L Ip ps Lp) : LoPl (n + 1) kk I hs L Ip ps Lp :=
  ⟨h.si, h.sp, h.fr.mono (QL_up n), h.frp.mono (QL_up n), h.tl, h.tlp, h.pl, h.keyed, (fun z hz => by obtain ⟨a, b, c, d, e⟩ := h.items z hz; exact ⟨a, by omega, c, d, e⟩), h.rel⟩
theorem LoPl.step {n : Nat} {kk : Int} {I : Im} {hs : List (Vo Vl)} {L : List It} {Ip : Im} {ps : List (Vo Vl)} {Lp : List It} (h : LoPl n kk I hs L Ip ps Lp) {d : CmD} (hd1 : d.sess = (n : Int) + 1) (hd2 : d.seq = 1) (hd3 : d.ack = 0) (hk1 : d.op.kind ≠ 1) (hc : cmdV d = 0) (hl : L.length < 14) :
    ∃ aa, (execV I (I.sl + 1) (bt d)).an = [aa] ∧ ExecOk I (I.sl + 1) (bt d) (execV I (I.sl + 1) (bt d)) ∧ ∃ Ip' Lp', LoPl (n + 1) kk (execV I (I.sl + 1) (bt d)).i (hs ++ [⟨I.sl + 1, 0, 0, bt d⟩]) (L ++ [(d, aa)]) Ip' (ps ++ [⟨I.sl + 1, 0, 0, if (L.length : Int) = kk then vz else bt d⟩]) Lp' := by
  have hsl := h.si.sl
  have hlen := h.si.len
  have hslp := h.sp.sl
  have hpl := h.pl
  have esl : Ip.sl = I.sl := by omega
  have q0 : QL n d.sess = 0 := by unfold QL; rw [if_neg (by omega)]
  have q1 : QL (n + 1) d.sess = 1 := by unfold QL; rw [if_pos (by omega)]
  obtain ⟨ok, aa, haa, _, hk3, _, htb⟩ := exec_one h.si.ok hc (by omega) h.fr (by have := h.tl; omega) trivial (by rw [q0]; exact Int.le_refl _) (by rw [q0, hd3]; exact Int.le_refl _)
  obtain ⟨okp, ap, hap, _, hkp3, _, htbp⟩ := exec_one h.sp.ok hc (by omega) h.frp (by have := h.tlp; omega) trivial (by rw [q0]; exact Int.le_refl _) (by rw [q0, hd3]; exact Int.le_refl _)
  obtain ⟨f1, f2⟩ := htb (QL (n + 1)) (fun x _ => QL_up n x) (by rw [q1, hd2]; exact Int.le_refl _)
  obtain ⟨g1, g2⟩ := htbp (QL (n + 1)) (fun x _ => QL_up n x) (by rw [q1, hd2]; exact Int.le_refl _)
  have hL1 : (L ++ [(d, aa)]).length = L.length + 1 := by rw [List.length_append]; rfl
  have hne : ∀ z ∈ L, itKey z ≠ itKey (d, aa) := fun z hz e => by
    have e1 : z.1.sess = d.sess := congrArg Prod.fst e
    have := (h.items z hz).2.1
    omega
  have hitems : ∀ z ∈ L ++ [(d, aa)], 1 ≤ z.1.sess ∧ z.1.sess ≤ ((n + 1 : Nat) : Int) ∧ z.1.seq = 1 ∧ z.1.op.kind ≠ 1 ∧ z.2.k ≤ 3 := fun z hz => by
    rcases List.mem_append.1 hz with hz | hz
    · obtain ⟨a, b, c, e, f⟩ := h.items z hz
      exact ⟨a, by omega, c, e, f⟩
    · rw [List.mem_singleton.1 hz]
      exact ⟨by show 1 ≤ d.sess; omega, by show d.sess ≤ _; omega, hd2, hk1, hk3⟩
  have tl1 := h.tl
  have tl2 := h.tlp
  refine ⟨aa, haa, ok, ?_⟩
  by_cases hk : (L.length : Int) = kk
  · rw [if_pos hk]
    obtain ⟨n1, n2⟩ := h.sp.noop (by omega)
    rw [esl] at n1 n2
    rcases h.rel with ⟨r1, r2, r3⟩ | ⟨q, M, r1, r2, _, _⟩
    · refine ⟨_, _, h.si.step ok haa, n1, f1, by rw [n2]; exact h.frp.mono (QL_up n), by rw [hL1]; omega, by rw [n2, hL1]; omega, by rw [List.length_append, List.length_append, hpl]; rfl, keyed_snoc h.keyed hne, hitems, .inr ⟨L.length, [], hk.symm, by rw [hL1]; omega, ?_, ?_⟩⟩
      · rw [r2, List.take_left, List.append_nil]
      · rw [List.drop_eq_nil_of_le (by rw [hL1]; exact Nat.le_refl _)]
    · omega
  · rw [if_neg hk]
    rcases h.rel with ⟨r1, r2, r3⟩ | ⟨q, M, r1, r2, r3, r4⟩
    · subst r1
      subst r2
      refine ⟨_, _, h.si.step ok haa, h.sp.step ok haa, f1, f1, by rw [hL1]; omega, by rw [hL1]; omega, by rw [List.length_append, List.length_append, hpl]; try rfl, keyed_snoc h.keyed hne, hitems, .inl ⟨rfl, rfl, fun q e => ?_⟩⟩
      have := r3 q e
      rw [hL1]
      omega
    · have st := h.sp.step okp hap
      rw [esl] at st g1 g2
      refine ⟨_, _, h.si.step ok haa, st, f1, g1, by rw [hL1]; omega, by rw [hL1]; omega, by rw [List.length_append, List.length_append, hpl]; try rfl, keyed_snoc h.keyed hne, hitems, .inr ⟨q, M ++ [(d, ap)], r1, by rw [hL1]; omega, ?_, ?_⟩⟩
      · rw [r3, List.append_assoc, List.take_append_of_le_length (by omega)]
      · rw [List.drop_append_of_le_length (by omega), List.map_append, List.map_append, r4]; rfl
theorem evsOf_app (L M : List It) : evsOf (L ++ M) = evsOf L ++ evsOf M := by unfold evsOf; rw [List.flatMap_append]
theorem cut_at {L : List It} {q : Nat} {z : It} (h : L[q]? = some z) : L = L.take q ++ [z] ++ L.drop (q + 1) := by
  obtain ⟨hq, e⟩ := List.getElem?_eq_some_iff.1 h
  rw [List.append_assoc, List.singleton_append, ← e, ← List.drop_eq_getElem_cons hq, List.take_append_drop]
theorem LoPl.right {n : Nat} {kk : Int} {I : Im} {hs : List (Vo Vl)} {L : List It} {Ip : Im} {ps : List (Vo Vl)} {Lp : List It} (h : LoPl n kk I hs L Ip ps Lp) : checkV [1] hs (evsOf L) false = 0 := by
  have h0 := chk_right (L := L) (M := []) (by rw [List.append_nil]; exact h.keyed) false
  rw [List.append_nil] at h0
  rw [h.si.check, h0]
theorem LoPl.lost {n : Nat} {kk : Int} {I : Im} {hs : List (Vo Vl)} {L : List It} {Ip : Im} {ps : List (Vo Vl)} {Lp : List It} (h : LoPl n kk I hs L Ip ps Lp) {q : Nat} {z : It} (hq : kk = (q : Int)) (hz : L[q]? = some z) {e : Ev} (he : e.k = 3) :
    checkV [1] ps (evsOf (L.take q) ++ [evA z.1, evB z.1 (itRes z)]) false = 63 ∧ checkV [1] hs (evsOf (L.take q) ++ (evA z.1 :: e :: evsOf (L.drop (q + 1)))) false = 0 ∧ ∀ tail, checkV [1] hs (evsOf (L.take q) ++ (e :: evB z.1 (itRes z) :: tail)) false = 41 := by
  have hql : q < L.length := (List.getElem?_eq_some_iff.1 hz).1
  have hc := cut_at hz
  have hk : Keyed (L.take q ++ [z] ++ L.drop (q + 1)) := by rw [← hc]; exact h.keyed
  obtain ⟨i1, i2, i3, i4, i5⟩ := h.items z (List.mem_of_getElem? hz)
  have hnd := hk
  unfold Keyed at hnd
  rw [List.append_assoc, List.map_append, List.singleton_append, List.map_cons] at hnd
  obtain ⟨n1, n2, n3⟩ := List.nodup_append.1 hnd
  simp only [List.nodup_cons] at n2
  refine ⟨?_, ?_, fun tail => ?_⟩
  · rcases h.rel with ⟨_, _, r3⟩ | ⟨q', M, r1, r2, r3, r4⟩
    · have := r3 q hq; omega
    · have : q' = q := by omega
      subst this
      rw [h.sp.check, r3]
      refine chk_gone ?_ ?_ i5 i4
      · unfold Keyed
        rw [List.map_append, r4]
        exact List.nodup_append.2 ⟨n1, n2.2, fun x hx y hy => n3 x hx y (List.mem_cons_of_mem _ hy)⟩
      · intro y hy e
        have hm : itKey y ∈ (L.take q').map itKey ∨ itKey y ∈ (L.drop (q' + 1)).map itKey := by
          rcases List.mem_append.1 hy with hy | hy
          · exact .inl (List.mem_map_of_mem hy)
          · exact .inr (by rw [← r4]; exact List.mem_map_of_mem hy)
        have e2 : itKey y = itKey z := e
        rw [e2] at hm
        rcases hm with hm | hm
        · exact n3 _ hm _ List.mem_cons_self rfl
        · exact n2.1 hm
  · have := chk_open (L := L.take q) (M := L.drop (q + 1)) (z := z) (e := e) hk he
    rw [← hc] at this
    rw [h.si.check, this]
  · have := chk_lost (L := L.take q) (M := L.drop (q + 1)) (z := z) (e := e) (r := itRes z) (tail := tail) hk he
    rw [← hc] at this
    rw [h.si.check, this]
end Go.Proofs.Ytbedoemdjlollaa

namespace Go.Proofs.Ytbedoemdjlollaa
open Go Go.ChangeShapes Go.WideShapes Go.ChangeAt Go.RowKit Go.Syn Go.Eng
set_option linter.unusedVariables false
set_option linter.unusedSimpArgs false
set_option maxRecDepth 100000
theorem lit_1 (w : World) : (Instr.buildSlice 33 1 #[(0, .int .i64 1)]).run Try.prog w = .ok (.slice (some ⟨w.heap.size, 0, none⟩) 1 1) (w.alloc (.cells ([.int .i64 1] : List Value).toArray 3)) := by kernel_rfl
section
variable {C : Cfg} {ρ : Env} {pre : List Nat} {hx rest : HX} {L : Stack} {m m' : Mem} {ty : Nat} {ps : List (Nat × SV)} {t : Tree}
theorem node_appendsS {st e : TypeId} {so xo : Operand} {ac : Go.Call} {r : SV} {z : Value} {sz bytes : Nat} (hac : ac = { callee := .builtin .append, args := #[so, xo], argTypes := #[st, st] }) (ht : C.P.underlying st = some (.slice e)) (hinfo : (C.P.info? e).map (fun i => (i.zero, i.size, i.bytes)) = some (some z, sz, bytes)) (hz : z.cells.size = sz) (hsz : 0 < sz)
    (a : Option Addr) (n cap : Nat) (xs : List Value) (sa : List Nat → Option Addr) (n2 cap2 : Nat) (ys : List Value) (h0 : 0 < n2) (hlen : ys.length = n2 * sz) (hxs : ∀ ids w, pre <+: ids → Facts C m ρ ids hx w → (HX.rw sz e a n cap xs).X w) (hys : ∀ ids w, pre <+: ids → Facts C m ρ ids hx w → Cells w (sa ids) ys) (h1 : ∀ u ∈ ys, u.oneCell' = true)
    (hrest : ∀ w, hx.X w → rest.X w ∧ ∀ k, rest.F k → hx.F k) (hrow : ∀ k, cap ≠ 0 → abk a = some k → hx.F k) (hdis : ∀ k, cap ≠ 0 → abk a = some k → ¬ rest.F k) (hM : ∀ k, cap ≠ 0 → abk a = some k → C.W.heap.size ≤ k ∨ C.M k)
    (h63 : n + n2 ≤ maxLen) (hbytes : (n + n2) * bytes ≤ 140737488355328) (hso : ∀ ids, envOf ρ ids ps so = .slice a n cap) (hxo : ∀ ids, pre <+: ids → envOf ρ ids ps xo = .slice (sa ids) n2 cap2)
    (hr : ∀ a' cap' ids, r.den (ρ.add ⟨[], [], [], [n + n2, cap'], [a']⟩) ids = .slice a' (n + n2) cap') (hhp : m'.hp = m.hp) (hfit : hpFits m.c m.hp.length m.hp = true) (hc : ∀ a' cap', (ρ.add ⟨[], [], [], [n + n2, cap'], [a']⟩).cnt = m'.c)
    (h : ∀ a' cap', a'.isSome = true → (∀ k, cap' ≠ 0 → abk a' = some k → ¬ rest.F k) → (∀ k, cap' ≠ 0 → abk a' = some k → (cap ≠ 0 ∧ abk a = some k) ∨ (C.W.heap.size ≤ k ∧ ¬ hx.F k)) → t.holds C (ρ.add ⟨[], [], [], [n + n2, cap'], [a']⟩) pre (rest.and (HX.rw sz e a' (n + n2) cap' (xs ++ ys))) L) :
    (Tree.gen (.call ac) ty ps m (some r) m' t).holds C ρ pre hx L := by
  intro ids w hp hf
  subst hac
  unfold GenRun
  obtain ⟨i0, hi, hz0, hz1, hz2⟩ := info_parts hinfo
  have hrw := hxs ids w hp hf
  have hcs := hys ids w hp hf
  have hpos : 0 < ys.length := by rw [hlen]; exact Nat.mul_pos h0 hsz
  obtain ⟨ha, hab, hcc⟩ := hcs hpos
  obtain ⟨ad, had⟩ : ∃ ad, sa ids = some ad := by
    cases hs : sa ids with
    | none => rw [hs] at ha; simp [PlainA] at ha
    | some ad => exact ⟨ad, rfl⟩
  rw [had] at ha hcc
  have hnews : ∀ j u, ys[j]? = some u → w.cell? (ad.add j) = some u := fun j u hj => by
    have e : ad = ⟨blk (some ad), ofs (some ad), none⟩ := Option.some.inj ha
    rw [e, Go.WideShapes.add_plain]; exact hcc j u hj
  obtain ⟨a', cap', w', hrun, hc0, hrow', hg, hblk⟩ := run_rw (P := C.P) w st ty e i0 z sz bytes ht hi hz0 hz1 hz2 hz hsz a n cap xs hrw ad n2 cap2 ys h0 hlen hnews h1 h63 hbytes
  have hlt : ∀ k, abk a' = some k → k < w'.heap.size := fun k hk => by
    obtain ⟨g, _, rfl, q, _⟩ := rw_open hrow' hc0
    cases hk; exact q
  have hso' : a'.isSome = true := by
    obtain ⟨g, _, rfl, q, _⟩ := rw_open hrow' hc0
    rfl
  have hrow1 : ∀ b, (if cap = 0 then none else abk a) = some b → cap ≠ 0 ∧ abk a = some b := fun b hb => by
    by_cases q : cap = 0
    · rw [if_pos q] at hb; cases hb
    · rw [if_neg q] at hb; exact ⟨q, hb⟩
  have hwhere : ∀ k, abk a' = some k → (cap ≠ 0 ∧ abk a = some k) ∨ w.heap.size ≤ k := fun k hk => by
    rcases hblk with ⟨q, q1⟩ | ⟨g, q1, q2⟩
    · exact .inl ⟨q, by rw [← q1]; exact hk⟩
    · rw [q1] at hk; cases hk; exact .inr q2
  have hnF : ∀ k, w.heap.size ≤ k → ¬ hx.F k := fun k hk hF => by have := (hf.sep _ hF).1; omega
  simp only [execOp, resolve, invoke, builtin, hso, hxo ids hp, had, Sem.run_bind, Sem.run_pure, Result.andThen_ok, List.map_toArray, List.map_cons, List.map_nil, hrun]
  refine ⟨⟨[], [], [], [n + n2, cap'], [a']⟩, ids, rest.and (HX.rw sz e a' (n + n2) cap' (xs ++ ys)), ?_, List.prefix_refl _, hf.turn (hx' := rest.and (HX.rw sz e a' (n + n2) cap' (xs ++ ys))) hg (fun b e => ?_) ⟨?_, hrow'⟩ (fun k hk => ?_) hhp hfit (hc _ _) oneNil, holds_pre t hp (h a' cap' hso' (fun k _ hk hF => ?_) (fun k _ hk => ?_))⟩
  · simp only [Option.map_some, hr]
  · exact ⟨hrow _ (hrow1 b e).1 (hrow1 b e).2, hM b (hrow1 b e).1 (hrow1 b e).2⟩
  · refine rest.loc w w' (hrest w hf.x).1 fun k hk => hg.block k (hf.sep k ((hrest w hf.x).2 k hk)).1 fun q => ?_
    obtain ⟨q1, q2⟩ := hrow1 k q.symm
    exact hdis k q1 q2 hk
  · rcases hk with hk | hk
    · exact .inl ((hrest w hf.x).2 k hk)
    · rcases hwhere k hk.2 with q | q
      · exact .inl (hrow k q.1 q.2)
      · exact .inr ⟨q, hlt k hk.2⟩
  · rcases hwhere k hk with q | q
    · exact hdis k q.1 q.2 hF
    · exact hnF k q ((hrest w hf.x).2 k hF)
  · rcases hwhere k hk with q | q
    · exact .inl q
    · exact .inr ⟨Nat.le_trans hf.chg.size q, hnF k q⟩
end
def k3 (e : Ev) : Ev := ⟨3, e.sess, e.seq, e.op, e.rk, e.rre, e.rim, e.node⟩
theorem spl_at {X Y : List Value} {u v : Value} {p : Nat} (h : p = X.length) : spl (X ++ u :: Y) p [v] = X ++ v :: Y := by
  subst h
  unfold spl
  simp
theorem evcs_app (l r : List Ev) : evcs (l ++ r) = evcs l ++ evcs r := by unfold evcs; rw [List.flatMap_append]
theorem spl_ev {E1 E2 : List Ev} {e : Ev} {i : Nat} (h : i = E1.length) : spl (evcs (E1 ++ e :: E2)) (i * 12 + 0) [.int .i64 3] = evcs (E1 ++ k3 e :: E2) := by
  rw [evcs_app, evcs_app]
  show spl (evcs E1 ++ (Value.int .i64 e.k :: (e.is.tail.map (Value.int .i64) ++ evcs E2))) (i * 12 + 0) [.int .i64 3] = evcs E1 ++ (Value.int .i64 3 :: (e.is.tail.map (Value.int .i64) ++ evcs E2))
  exact spl_at (by rw [h, Nat.add_zero]; exact (flat_len ev_len E1).symm)
theorem ev_pre {w : World} {a : Option Addr} {cap : Nat} {es : List Ev} (h : Cells w a (evcs es)) (hc : es.length ≤ cap) (k : Nat) (hk : k ≤ es.length) : Cells w (sliA a 0 cap 12) (evcs (es.take k)) := by
  have hl : (evcs es).length = es.length * 12 := flat_len ev_len es
  have := sli_cells h 0 (k * 12) cap 12 (by omega) (by rw [hl]; exact Nat.mul_le_mul_right _ hc) (by decide)
  rw [Nat.zero_mul, List.drop_zero] at this
  have e : evcs (es.take k) = (evcs es).take (k * 12) := by
    conv => rhs; rw [← List.take_append_drop k es, evcs_app]
    rw [List.take_left' (by rw [show (evcs (es.take k)).length = (es.take k).length * 12 from flat_len ev_len _, List.length_take, Nat.min_eq_left hk])]
  rw [e]; exact this
theorem vox_sub {w : World} {hs : List (Vo Pv)} {ap : Option Addr} {cpp : Nat} {ps : List (Vo Pv)} (h : (voAll hs).X w) (hr : (vrow ap cpp ps).X w) (hsub : ∀ x ∈ ps, x.v = pz ∨ ∃ y ∈ hs, y.v = x.v) : (voX ap ps).X w := ⟨rw_cells hr, fun y hy => by
  obtain ⟨x, hx, rfl⟩ := List.mem_map.1 hy
  rcases hsub x hx with e | ⟨y, hy2, e⟩
  · show (vlX x.v.v x.v.a1 x.v.a2).X w
    rw [e]
    exact ⟨cl_nil _ _, cl_nil _ _⟩
  · have := h _ (List.mem_map.2 ⟨y, hy2, rfl⟩)
    show (vlX x.v.v x.v.a1 x.v.a2).X w
    rw [← e]
    exact ⟨rw_cells this.1, rw_cells this.2⟩⟩
structure LoX (W : World) (kk : Int) (k : Nat) (I : Im) (hs : List (Vo Pv)) (L : List It) (evs : List Ev) (Ip : Im) (ps : List (Vo Pv)) (Lp : List It) (a1 : Option Addr) (c1 : Nat) (a2 : Option Addr) (c2 : Nat) (es : List SE) (ah : Option Addr) (ch : Nat) (ae : Option Addr) (ce : Nat) (ap : Option Addr) (cpp : Nat) : Prop where
  pl : LoPl k kk I (vlsOf hs) L Ip (vlsOf ps) Lp
  k20 : k ≤ 20
  hev : evs = evsOf L
  hes : es.map SE.s = I.tb
  fit : ∀ x ∈ hs, I64 x.s ∧ VlFit x.v.v
  fitp : ∀ x ∈ ps, I64 x.s ∧ VlFit x.v.v
  sub : ∀ x ∈ ps, x.v = pz ∨ ∃ y ∈ hs, y.v = x.v
  len : hs.length ≤ 14
  o3 : OwnR W ((imX I a1 a2 c2 es).and (voAll hs)) (vrow ah ch hs)
  o4 : OwnR W (((imX I a1 a2 c2 es).and (voAll hs)).and (vrow ah ch hs)) (erow ae ce evs)
  o5 : OwnR W ((((imX I a1 a2 c2 es).and (voAll hs)).and (vrow ah ch hs)).and (erow ae ce evs)) (vrow ap cpp ps)
def loH (I : Im) (a1 a2 : Option Addr) (c2 : Nat) (es : List SE) (hs : List (Vo Pv)) (ah : Option Addr) (ch : Nat) (evs : List Ev) (ae : Option Addr) (ce : Nat) (ps : List (Vo Pv)) (ap : Option Addr) (cpp : Nat) : HX := ((((imX I a1 a2 c2 es).and (voAll hs)).and (vrow ah ch hs)).and (erow ae ce evs)).and (vrow ap cpp ps)
def LoI (W : World) (kk : Int) (vs : Vals) (hx : HX) (n : Nat) : Prop := ∃ (k : Nat) (I : Im) (hs : List (Vo Pv)) (L : List It) (evs : List Ev) (Ip : Im) (ps : List (Vo Pv)) (Lp : List It) (a1 : Option Addr) (c1 : Nat) (a2 : Option Addr) (c2 : Nat) (es : List SE) (ah : Option Addr) (ch : Nat) (ae : Option Addr) (ce : Nat) (ap : Option Addr) (cpp : Nat), n = 20 - k ∧ LoX W kk k I hs L evs Ip ps Lp a1 c1 a2 c2 es ah ch ae ce ap cpp ∧
  vs = ⟨(k : Int) :: imI I, [], [], [hs.length, ch, evs.length, ce, ps.length, cpp, I.mem.length, c1, I.tb.length, c2], [ah, ae, ap, a1, a2]⟩ ∧ loH I a1 a2 c2 es hs ah ch evs ae ce ps ap cpp = hx
def LoJ (W : World) (kk : Int) (vs : Vals) (hx : HX) : Prop := ∃ (k : Nat) (I : Im) (hs : List (Vo Pv)) (L : List It) (evs : List Ev) (Ip : Im) (ps : List (Vo Pv)) (Lp : List It) (a1 : Option Addr) (c1 : Nat) (a2 : Option Addr) (c2 : Nat) (es : List SE) (ah : Option Addr) (ch : Nat) (ae : Option Addr) (ce : Nat) (ap : Option Addr) (cpp : Nat), LoX W kk k I hs L evs Ip ps Lp a1 c1 a2 c2 es ah ch ae ce ap cpp ∧
  vs = ⟨imI I, [], [], [hs.length, ch, evs.length, ce, ps.length, cpp, I.mem.length, c1, I.tb.length, c2], [ah, ae, ap, a1, a2]⟩ ∧ loH I a1 a2 c2 es hs ah ch evs ae ce ps ap cpp = hx
set_option maxHeartbeats 8000000 in
theorem lost_walk (a : Option Addr) (cp : Nat) (cs : List CmD) (kk : Int) (hkk : I64 kk) (w : World) (H : Cells w a (ccells cs)) :
    Calls Try.prog 7 #[.slice a cs.length cp, .int .i64 kk] w (PureAt w (.bool true)) := by
  refine calls_at (tab_ok _) Try.func7 rfl tLLost (ρ := ⟨[kk], [], [], [cs.length, cp], [a]⟩) (ids := []) (hx := HX.nil) rfl (Facts.initP rfl oneNil) ?_
  refine node_P ⟨[], [true], [], [], []⟩ #[] (.bool true) (by intros; kernel_rfl) (by intros; kernel_rfl) (by kernel_rfl) (by kernel_rfl) (by kernel_rfl) oneNil (fun ids w2 hp hf => head25_any w2) ?_
  refine br_f (by kernel_rfl) ?_
  have i1 : ∀ {w2 : World} {b : Option Addr}, Cells w2 b [.int .i64 1] → Ints w2 b [1] := fun h => Ints.of_cells (xs := [1]) (by decide) (by unfold I64; decide) h
  refine node_lit (t := 33) (e := 3) (len := 1) (sz := 1) [.int .i64 1] #[(0, .int .i64 1)] (by intros; kernel_rfl) (fun w => lit_1 w) rfl (by unfold maxLen; decide) (by intros; kernel_rfl) (by kernel_rfl) (by kernel_rfl) (by intros; kernel_rfl) ?_
  intro la hla
  refine node_im (V := id) (I := firstI [1]) (fun ids => #[.slice la 1 1]) (fun x1 y1 x2 y2 => ⟨imI (firstI [1]), [], [], [1, y1, 0, y2], [x1, x2]⟩) (by intros; kernel_rfl) (fun ids w2 hp hf => xfirst_any la 1 [1] w2 (i1 (rw_cells hf.x.2)) (by decide)) (by intros; kernel_rfl) (by kernel_rfl) (by kernel_rfl) (by intros; kernel_rfl) (fun _ _ _ _ => oneNil) ?_
  intro x1 y1 x2 y2 es0 hm0 hdj0 hsm0 had0 hn0
  refine node_lit (t := 24) (e := 39) (len := 0) (sz := 6) [] #[] (by intros; kernel_rfl) (fun w => lit_vo0 w) rfl (by unfold maxLen; decide) (by intros; kernel_rfl) (by kernel_rfl) (by kernel_rfl) (by intros; kernel_rfl) ?_
  intro lb hlb
  refine node_lit (t := 45) (e := 66) (len := 0) (sz := 12) [] #[] (by intros; kernel_rfl) (fun w => lit_ev0 w) rfl (by unfold maxLen; decide) (by intros; kernel_rfl) (by kernel_rfl) (by kernel_rfl) (by intros; kernel_rfl) ?_
  intro lc hlc
  refine node_lit (t := 24) (e := 39) (len := 0) (sz := 6) [] #[] (by intros; kernel_rfl) (fun w => lit_vo0 w) rfl (by unfold maxLen; decide) (by intros; kernel_rfl) (by kernel_rfl) (by kernel_rfl) (by intros; kernel_rfl) ?_
  intro ld hld
  refine ⟨LoJ w kk, ?_, ?_⟩
  · refine ⟨LoI w kk, fun ids w2 hp hf => ⟨loH (firstI [1]) x1 x2 y2 es0 [] lb 0 [] lc 0 [] ld 0, 20, ⟨⟨⟨⟨⟨hf.x.1.1.1.2, fun x hx => by cases hx⟩, HX.rw_nil _ _ _ _⟩, HX.rw_nil _ _ _ _⟩, HX.rw_nil _ _ _ _⟩, fun j hj => by
      rcases hj with (((hj | ⟨x, hx, _⟩) | hj) | hj) | hj
      · exact hf.sep j (.inl (.inl (.inl (.inr hj))))
      · cases hx
      · exact absurd rfl hj.1
      · exact absurd rfl hj.1
      · exact absurd rfl hj.1⟩, 0, firstI [1], [], [], [], firstI [1], [], [], x1, y1, x2, y2, es0, lb, 0, lc, 0, ld, 0, rfl, ⟨LoPl.nil kk (by decide) (by unfold I64; decide), Nat.zero_le _, rfl, hm0, (fun x hx => by cases hx), (fun x hx => by cases hx), (fun x hx => by cases hx), Nat.zero_le _, (fun q hq => absurd rfl hq.1), (fun q hq => absurd rfl hq.1), (fun q hq => absurd rfl hq.1)⟩, by kernel_rfl, rfl⟩, ?_⟩
    rintro vs hx' n hcnt ⟨k, I, hs, L, evs, Ip, ps, Lp, a1, c1, a2, c2, es, ah, ch, ae, ce, ap, cpp, rfl, X, rfl, rfl⟩
    have hvl := vlsOf_len hs
    have hvp := vlsOf_len ps
    have hPl := X.pl
    have hLl := hPl.si.len
    have hsl := hPl.si.sl
    have hpl := hPl.pl
    have hlen := X.len
    have hk20 := X.k20
    have hel : evs.length ≤ 28 := by rw [X.hev, evsOf_len]; omega
    refine holds_env (ρ' := ⟨kk :: (imI (firstI [1]) ++ ((k : Int) :: imI I)), [true], [], [cs.length, cp, 1, 1, 1, y1, 0, y2, 0, 0, 0, 0, 0, 0] ++ [hs.length, ch, evs.length, ce, ps.length, cpp, I.mem.length, c1, I.tb.length, c2], [a, la, x1, x2, lb, lc, ld] ++ [ah, ae, ap, a1, a2]⟩) (by kernel_rfl) ?_
    have hwk : IntKind.i64.wrap ((k : Int) + 1) = ((k + 1 : Nat) : Int) := by rw [wrap_i64 (by omega)]; omega
    have stop : ∀ {m : Mem} {ρ : Env} {es1 : Vec} {S : Stack}, (∀ ids, es1.den ρ ids = ⟨imI I, [], [], [hs.length, ch, evs.length, ce, ps.length, cpp, I.mem.length, c1, I.tb.length, c2], [ah, ae, ap, a1, a2]⟩) → lkup 25 S = some (LoJ w kk) → (Tree.again 25 es1 m).holds ⟨Try.prog, w, fun _ => False, PureAt w (.bool true)⟩ ρ [] (loH I a1 a2 c2 es hs ah ch evs ae ce ps ap cpp) S := fun h1 h2 => again_V ⟨imI I, [], [], [hs.length, ch, evs.length, ce, ps.length, cpp, I.mem.length, c1, I.tb.length, c2], [ah, ae, ap, a1, a2]⟩ h2 h1 _ (fun w2 ids hf => ⟨hf.x, hf.sep⟩) ⟨k, I, hs, L, evs, Ip, ps, Lp, a1, c1, a2, c2, es, ah, ch, ae, ce, ap, cpp, X, rfl, rfl⟩
    refine br_D (p := (k : Int) < (cs.length : Int)) (by kernel_rfl) (fun hlt => ?_) (fun hlt => stop (by intros; kernel_rfl) rfl)
    refine br_D (p := (k : Int) < 20) (by kernel_rfl) (fun h20 => ?_) (fun h20 => stop (by intros; kernel_rfl) rfl)
    have hlt : k < cs.length := by omega
    have hk20' : k < 20 := by omega
    obtain ⟨c, hc⟩ : ∃ c, cs[k]? = some c := ⟨_, List.getElem?_eq_getElem hlt⟩
    have hce := c_elt H hc
    refine need_k (a.isSome = true ∧ (0 : Int) ≤ (k : Int) ∧ (k : Int) < (cs.length : Int)) (by kernel_rfl) ⟨hce.1, by omega, by omega⟩ ?_
    refine node_ld0 (k := ⟨38, 1, 0, 24, 12⟩) ⟨c.is, [], [], [], []⟩ (.pointer (some (((a.getD ⟨0, 0, none⟩).add (k * 8)).add 0))) c.cells (by intros; kernel_rfl) (by intros; kernel_rfl) (hce.2 _ (fun q => q)) ⟨by kernel_rfl, oneNil⟩ (by kernel_rfl) oneNil ?_
    obtain ⟨d, ed⟩ : ∃ d : CmD, d = ⟨((k + 1 : Nat) : Int), 1, 0, c.op⟩ := ⟨_, rfl⟩
    refine node_P ⟨[cmdV d], [], [], [], []⟩ #[.agg d.cells.toArray] (.int .i64 (cmdV d)) (fun ids => Eq.trans (b := #[.agg (CmD.cells ⟨IntKind.i64.wrap ((k : Int) + 1), 1, 0, c.op⟩).toArray]) (by kernel_rfl) (by rw [hwk, ed])) (by intros; kernel_rfl) (by kernel_rfl) (by kernel_rfl) (by kernel_rfl) oneNil (fun ids w2 hp hf => rcmd_any d w2) ?_
    refine holds_env (ρ' := ⟨kk :: (imI (firstI [1]) ++ ((k : Int) :: imI I) ++ c.is ++ [cmdV d]), [true], [], [cs.length, cp, 1, 1, 1, y1, 0, y2, 0, 0, 0, 0, 0, 0] ++ [hs.length, ch, evs.length, ce, ps.length, cpp, I.mem.length, c1, I.tb.length, c2], [a, la, x1, x2, lb, lc, ld] ++ [ah, ae, ap, a1, a2]⟩) (by kernel_rfl) ?_
    have skip : ∀ {m : Mem} {ρ : Env} {es1 : Vec} {S : Stack}, (∀ ids, es1.den ρ ids = ⟨IntKind.i64.wrap ((k : Int) + 1) :: imI I, [], [], [hs.length, ch, evs.length, ce, ps.length, cpp, I.mem.length, c1, I.tb.length, c2], [ah, ae, ap, a1, a2]⟩) → lkup 8 S = some (fun vs' hx'' => ∃ n', n' < 20 - k ∧ LoI w kk vs' hx'' n') → (Tree.again 8 es1 m).holds ⟨Try.prog, w, fun _ => False, PureAt w (.bool true)⟩ ρ [] (loH I a1 a2 c2 es hs ah ch evs ae ce ps ap cpp) S := fun h1 h2 => again_V ⟨IntKind.i64.wrap ((k : Int) + 1) :: imI I, [], [], [hs.length, ch, evs.length, ce, ps.length, cpp, I.mem.length, c1, I.tb.length, c2], [ah, ae, ap, a1, a2]⟩ h2 h1 _ (fun w2 ids hf => ⟨hf.x, hf.sep⟩) ⟨20 - (k + 1), by omega, k + 1, I, hs, L, evs, Ip, ps, Lp, a1, c1, a2, c2, es, ah, ch, ae, ce, ap, cpp, rfl, ⟨hPl.more, by omega, X.hev, X.hes, X.fit, X.fitp, X.sub, X.len, X.o3, X.o4, X.o5⟩, by rw [hwk], rfl⟩
    refine br_B (cmdV d != 0) (by kernel_rfl) (fun hcv => skip (by intros; kernel_rfl) rfl) (fun hcv => ?_)
    refine br_D (p := c.op.kind = 1) (by kernel_rfl) (fun hk1 => skip (by intros; kernel_rfl) rfl) (fun hk1 => ?_)
    refine br_D (p := (hs.length : Int) ≥ 14) (by kernel_rfl) (fun h14 => skip (by intros; kernel_rfl) rfl) (fun h14 => ?_)
    have hcv : cmdV d = 0 := by simpa using hcv
    have hd1 : d.sess = (k : Int) + 1 := by rw [ed]; show ((k + 1 : Nat) : Int) = _; omega
    have hd2 : d.seq = 1 := by rw [ed]
    have hd3 : d.ack = 0 := by rw [ed]
    have hdo : d.op = c.op := by rw [ed]
    obtain ⟨aa, haa, ok, Ip2, Lp2, hPl2⟩ := hPl.step hd1 hd2 hd3 (by rw [hdo]; exact hk1) hcv (by omega)
    obtain ⟨R, eR⟩ : ∃ R, R = execV I (I.sl + 1) (bt d) := ⟨_, rfl⟩
    rw [← eR] at ok haa hPl2
    have hws : IntKind.i64.wrap (I.sl + 1) = I.sl + 1 := wrap_i64 (by omega)
    have hes2 : es.length ≤ 16 := by rw [es_len X.hes]; have := hPl.tl; omega
    have o3 := X.o3
    have o4 := X.o4
    have o5 := X.o5
    unfold loH
    refine node_lit (t := 32) (e := 43) (len := 1) (sz := 8) (ccells [d]) #[(0, .agg d.cells.toArray)] (fun ids => Eq.trans (b := #[(0, .agg (CmD.cells ⟨IntKind.i64.wrap ((k : Int) + 1), 1, 0, c.op⟩).toArray)]) (by kernel_rfl) (by rw [hwk, ed])) (fun w => lit_cmd d w) rfl (by unfold maxLen; decide) (by intros; kernel_rfl) (by kernel_rfl) (by kernel_rfl) (by intros; kernel_rfl) ?_
    intro lk hlk
    refine holds_sub _ (hx' := (((((imX I a1 a2 c2 es).and (voAll hs)).and (vrow ah ch hs)).and (erow ae ce evs)).and (vrow ap cpp ps)).and (pvR ⟨bt d, lk, 1, none, 0⟩)) (fun w2 h => ⟨h.1, h.2, HX.rw_nil _ _ _ _⟩) (fun q hq => hq.elim .inl (fun q => q.elim .inr (fun q => absurd rfl q.1))) ?_
    have hpv : ∀ q, (pvR ⟨bt d, lk, 1, none, 0⟩).F q → w.heap.size ≤ q ∧ ¬ (((((imX I a1 a2 c2 es).and (voAll hs)).and (vrow ah ch hs)).and (erow ae ce evs)).and (vrow ap cpp ps)).F q := fun q hq => by
      rcases hq with hq | hq
      · exact hlk q hq.1 hq.2
      · exact absurd rfl hq.1
    refine node_ex (R := R) (fun _ => #[imV I a1 c1 a2 c2, .int .i64 (I.sl + 1), vlV (bt d) lk 1 none 0]) (fun ids => Eq.trans (b := #[imV I a1 c1 a2 c2, .int .i64 (IntKind.i64.wrap (I.sl + 1)), vlV (bt d) lk 1 none 0]) (by kernel_rfl) (by rw [hws])) (fun ids w2 hp hf => eR ▸ xexec_any I a1 c1 a2 c2 es (I.sl + 1) (bt d) lk 1 none 0 w2 (hPl.si.ok.fit.at_ X.hes hf.x.1.1.1.1.1) (by omega) hPl.si.ok.fit.len ((bt_fit d).at_ ⟨rw_cells hf.x.2.1, cl_nil _ _⟩)) (by intros; kernel_rfl) (by kernel_rfl) (by kernel_rfl) (by intros; kernel_rfl) ?_
    intro g1 h1 g2 h2 es2 oa oc hm2 hdj2 hsm2 hso2 hn2
    have hal : R.an.length = 1 := by rw [haa]; rfl
    have hoa : oa.isSome = true := hso2 (by rw [haa]; exact List.cons_ne_nil _ _)
    have hget : R.an[0]? = some aa := by rw [haa]; rfl
    refine br_F (R.e != 0) (by kernel_rfl) (by rw [ok.e]; rfl) ?_
    refine holds_env (ρ' := ⟨kk :: (imI (firstI [1]) ++ ((k : Int) :: imI I) ++ c.is ++ [cmdV d] ++ (imI R.i ++ [R.e])), [true], [], [cs.length, cp, 1, 1, 1, y1, 0, y2, 0, 0, 0, 0, 0, 0] ++ [hs.length, ch, evs.length, ce, ps.length, cpp, I.mem.length, c1, I.tb.length, c2] ++ [1, 1, R.i.mem.length, h1, R.i.tb.length, h2, R.an.length, oc], [a, la, x1, x2, lb, lc, ld] ++ [ah, ae, ap, a1, a2] ++ [lk, g1, g2, oa]⟩) (by kernel_rfl) ?_
    obtain ⟨P1, eP1⟩ : ∃ X, X = imX I a1 a2 c2 es := ⟨_, rfl⟩
    obtain ⟨EX, eEX⟩ : ∃ X, X = exX R g1 g2 h2 es2 oa := ⟨_, rfl⟩
    obtain ⟨z, ez⟩ : ∃ z : Vo Pv, z = ⟨I.sl + 1, 0, 0, ⟨bt d, lk, 1, none, 0⟩⟩ := ⟨_, rfl⟩
    have ezv : pvR ⟨bt d, lk, 1, none, 0⟩ = pvR z.v := by rw [ez]
    rw [ezv] at hpv hn2 ⊢
    rw [← eP1] at hpv o3 o4 o5 hn2 ⊢
    rw [← eEX] at hn2 ⊢
    have exC : ∀ {w2 : World}, EX.X w2 → Cells w2 oa (ancells R.an) := fun h => by rw [eEX] at h; exact h.2
    have hvl2 : vlsOf (hs ++ [z]) = vlsOf hs ++ [⟨I.sl + 1, 0, 0, bt d⟩] := by unfold vlsOf; rw [List.map_append, ez]; rfl
    refine node_lit (t := 24) (e := 39) (len := 1) (sz := 6) (voC z) #[(0, .agg (voC z).toArray)] (fun ids => Eq.trans (b := #[(0, .agg (voC ⟨R.i.sl, 0, 0, ⟨bt d, lk, 1, none, 0⟩⟩).toArray)]) (by kernel_rfl) (by rw [ok.sl, ez])) (fun w => lit_vote z w) rfl (by unfold maxLen; decide) (by intros; kernel_rfl) (by kernel_rfl) (by kernel_rfl) (by intros; kernel_rfl) ?_
    intro lv hlv
    refine node_appends (e := 39) (sz := 6) (bytes := 80) (rest := ((EX.and ((voAll hs).and (pvR z.v))).and (erow ae ce evs)).and (vrow ap cpp ps)) rfl Try.underlying24 info_vote rfl (by decide) ah hs.length ch (vocs hs) (fun _ => lv) 1 1 (voC z) rfl (fun ids w2 hp hf => hf.x.1.1.1.1.1.2) (fun ids w2 hp hf => rw_cells hf.x.2) (voC_one z) (fun w2 h => ⟨⟨⟨⟨h.1.2, h.1.1.1.1.1.1.2, h.1.1.2⟩, h.1.1.1.1.2⟩, h.1.1.1.2⟩, fun q hq => by
        rcases hq with ((q1 | q2 | q3) | q4) | q5
        · exact .inl (.inr q1)
        · exact .inl (.inl (.inl (.inl (.inl (.inl (.inr q2))))))
        · exact .inl (.inl (.inr q3))
        · exact .inl (.inl (.inl (.inl (.inr q4))))
        · exact .inl (.inl (.inl (.inr q5)))⟩) (fun q i1 i2 => .inl (.inl (.inl (.inl (.inl (.inr ⟨i1, i2⟩)))))) (fun q i1 i2 hq => by
        rcases hq with ((q1 | q2 | q3) | q4) | q5
        · exact (hn2 q q1).2 (.inl (.inl (.inl (.inr ⟨i1, i2⟩))))
        · exact (o3 q ⟨i1, i2⟩).2 (.inr q2)
        · exact (hpv q q3).2 (.inl (.inl (.inr ⟨i1, i2⟩)))
        · exact (o4 q q4).2 (.inr ⟨i1, i2⟩)
        · exact (o5 q q5).2 (.inl (.inr ⟨i1, i2⟩))) (fun q i1 i2 => .inl (o3 q ⟨i1, i2⟩).1) (by unfold maxLen; omega) (by omega) (by intros; kernel_rfl) (by intros; kernel_rfl) (by intros; kernel_rfl) (by kernel_rfl) (by kernel_rfl) (by intros; kernel_rfl) ?_
    intro ah2 ch2 _ hdA hwA
    have erA : HX.rw 6 39 ah2 (hs.length + 1) ch2 (vocs hs ++ voC z) = vrow ah2 ch2 (hs ++ [z]) := by unfold vrow; rw [vocs_snoc, List.length_append]; rfl
    refine holds_eq (congrArg _ erA) ?_
    have hA3 : ∀ q, (vrow ah2 ch2 (hs ++ [z])).F q → w.heap.size ≤ q := fun q hq => by
      rcases hwA q hq.1 hq.2 with ⟨y1, y2⟩ | y
      · exact (o3 q ⟨y1, y2⟩).1
      · exact y.1
    have hlw : IntKind.i64.wrap (((hs.length + 1 : Nat) : Int) - 1) = (L.length : Int) := by rw [wrap_i64 (by omega)]; omega
    obtain ⟨R2, eR2⟩ : ∃ X, X = ((EX.and ((voAll hs).and (pvR z.v))).and (erow ae ce evs)).and (vrow ah2 ch2 (hs ++ [z])) := ⟨_, rfl⟩
    refine ⟨fun vs hx => ∃ (x : Pv) (ap2 : Option Addr) (cp2 : Nat), x = (if (L.length : Int) = kk then pz else z.v) ∧ (∀ q, (vrow ap2 cp2 (ps ++ [⟨I.sl + 1, 0, 0, x⟩])).F q → w.heap.size ≤ q ∧ ¬ R2.F q) ∧ vs = ⟨[], [], [], [ps.length + 1, cp2], [ap2]⟩ ∧ R2.and (vrow ap2 cp2 (ps ++ [⟨I.sl + 1, 0, 0, x⟩])) = hx, ?_, ?_⟩
    · have push : ∀ {ty : Nat} {so xo : Operand} {prs : List (Nat × SV)} {m m2 m3 : Mem} {rr : SV} {es1 : Vec} {ρ : Env} {S : Stack} (x : Vo Pv) (lx : Option Addr), x.s = I.sl + 1 → x.r = 0 → x.n = 0 → x.v = (if (L.length : Int) = kk then pz else z.v) → (∀ ids, envOf ρ ids prs so = .slice ap ps.length cpp) → (∀ ids, envOf ρ ids prs xo = .slice lx 1 1) → (∀ a' cap' ids, rr.den (ρ.add ⟨[], [], [], [ps.length + 1, cap'], [a']⟩) ids = .slice a' (ps.length + 1) cap') → m2.hp = m.hp → hpFits m.c m.hp.length m.hp = true → (∀ a' cap', (ρ.add ⟨[], [], [], [ps.length + 1, cap'], [a']⟩).cnt = m2.c) →
        (∀ a' cap' ids, es1.den (ρ.add ⟨[], [], [], [ps.length + 1, cap'], [a']⟩) ids = ⟨[], [], [], [ps.length + 1, cap'], [a']⟩) → lkup 24 S = some (fun vs hx => ∃ (x : Pv) (ap2 : Option Addr) (cp2 : Nat), x = (if (L.length : Int) = kk then pz else z.v) ∧ (∀ q, (vrow ap2 cp2 (ps ++ [⟨I.sl + 1, 0, 0, x⟩])).F q → w.heap.size ≤ q ∧ ¬ R2.F q) ∧ vs = ⟨[], [], [], [ps.length + 1, cp2], [ap2]⟩ ∧ R2.and (vrow ap2 cp2 (ps ++ [⟨I.sl + 1, 0, 0, x⟩])) = hx) →
        (Tree.gen (.call { callee := .builtin .append, args := #[so, xo], argTypes := #[24, 24] }) ty prs m (some rr) m2 (.again 24 es1 m3)).holds ⟨Try.prog, w, fun _ => False, PureAt w (.bool true)⟩ ρ [] (((((EX.and ((voAll hs).and (pvR z.v))).and (erow ae ce evs)).and (vrow ap cpp ps)).and (vrow ah2 ch2 (hs ++ [z]))).and (HX.rw 6 39 lx 1 1 (voC x))) S := fun {ty so xo prs m m2 m3 rr es1 ρ S} x lx s1 s2 s3 s4 t1 t2 t3 t4 t5 t6 t7 t8 => by
        refine node_appends (e := 39) (sz := 6) (bytes := 80) (rest := R2) rfl Try.underlying24 info_vote rfl (by decide) ap ps.length cpp (vocs ps) (fun _ => lx) 1 1 (voC x) rfl (fun ids w2 hp hf => hf.x.1.1.2) (fun ids w2 hp hf => rw_cells hf.x.2) (voC_one x) (fun w2 h => ⟨by rw [eR2]; exact ⟨h.1.1.1, h.1.2⟩, fun q hq => by
            rw [eR2] at hq
            rcases hq with q1 | q2
            · exact .inl (.inl (.inl q1))
            · exact .inl (.inr q2)⟩) (fun q i1 i2 => .inl (.inl (.inr ⟨i1, i2⟩))) (fun q i1 i2 hq => by
            rw [eR2] at hq
            rcases hq with ((q1 | q2 | q3) | q4) | q5
            · exact (hn2 q q1).2 (.inl (.inr ⟨i1, i2⟩))
            · exact (o5 q ⟨i1, i2⟩).2 (.inl (.inl (.inr q2)))
            · exact (hpv q q3).2 (.inr ⟨i1, i2⟩)
            · exact (o5 q ⟨i1, i2⟩).2 (.inr q4)
            · exact hdA q q5.1 q5.2 (.inr ⟨i1, i2⟩)) (fun q i1 i2 => .inl (o5 q ⟨i1, i2⟩).1) (by unfold maxLen; omega) (by omega) t1 (fun ids _ => t2 ids) t3 t4 t5 t6 ?_
        intro ap2 cp2 _ hdP hwP
        have exx : x = ⟨I.sl + 1, 0, 0, x.v⟩ := by cases x; simp only at s1 s2 s3; rw [s1, s2, s3]
        have erP : HX.rw 6 39 ap2 (ps.length + 1) cp2 (vocs ps ++ voC x) = vrow ap2 cp2 (ps ++ [⟨I.sl + 1, 0, 0, x.v⟩]) := by unfold vrow; rw [vocs_snoc, List.length_append, ← exx]; rfl
        refine holds_eq (congrArg _ erP) ?_
        exact again_V ⟨[], [], [], [ps.length + 1, cp2], [ap2]⟩ t8 (t7 ap2 cp2) _ (fun w2 ids hf => ⟨hf.x, hf.sep⟩) ⟨x.v, ap2, cp2, s4, fun q hq => ⟨by
          rcases hwP q hq.1 hq.2 with ⟨y1, y2⟩ | y
          · exact (o5 q ⟨y1, y2⟩).1
          · exact y.1, hdP q hq.1 hq.2⟩, rfl, rfl⟩
      refine br_D (p := IntKind.i64.wrap (((hs.length + 1 : Nat) : Int) - 1) = kk) (by kernel_rfl) (fun hq => ?_) (fun hq => ?_)
      · rw [hlw] at hq
        refine node_lit (t := 24) (e := 39) (len := 1) (sz := 6) (voC ⟨I.sl + 1, 0, 0, pz⟩) #[(0, .agg (voC ⟨I.sl + 1, 0, 0, pz⟩).toArray)] (fun ids => Eq.trans (b := #[(0, .agg (voC ⟨R.i.sl, 0, 0, pz⟩).toArray)]) (by kernel_rfl) (by rw [ok.sl])) (fun w => lit_vote ⟨I.sl + 1, 0, 0, pz⟩ w) rfl (by unfold maxLen; decide) (by intros; kernel_rfl) (by kernel_rfl) (by kernel_rfl) (by intros; kernel_rfl) ?_
        intro lx hlx
        exact push ⟨I.sl + 1, 0, 0, pz⟩ lx rfl rfl rfl (by rw [if_pos hq]) (by intros; kernel_rfl) (by intros; kernel_rfl) (by intros; kernel_rfl) (by kernel_rfl) (by kernel_rfl) (by intros; kernel_rfl) (by intros; kernel_rfl) rfl
      · rw [hlw] at hq
        refine node_lit (t := 24) (e := 39) (len := 1) (sz := 6) (voC z) #[(0, .agg (voC z).toArray)] (fun ids => Eq.trans (b := #[(0, .agg (voC ⟨R.i.sl, 0, 0, ⟨bt d, lk, 1, none, 0⟩⟩).toArray)]) (by kernel_rfl) (by rw [ok.sl, ez])) (fun w => lit_vote z w) rfl (by unfold maxLen; decide) (by intros; kernel_rfl) (by kernel_rfl) (by kernel_rfl) (by intros; kernel_rfl) ?_
        intro lx hlx
        exact push z lx (by rw [ez]) (by rw [ez]) (by rw [ez]) (by rw [if_neg hq]) (by intros; kernel_rfl) (by intros; kernel_rfl) (by intros; kernel_rfl) (by kernel_rfl) (by kernel_rfl) (by intros; kernel_rfl) (by intros; kernel_rfl) rfl
    rintro vs hx hcnt3 ⟨x, ap2, cp2, ex, hPf, rfl, rfl⟩
    rw [eR2] at hPf ⊢
    refine need_k (oa.isSome = true ∧ (0 : Int) ≤ 0 ∧ (0 : Int) < (R.an.length : Int)) (by kernel_rfl) ⟨hoa, by omega, by omega⟩ ?_
    refine node_ldk ⟨[aa.k, aa.re, aa.im], [], [], [], []⟩ (fun _ => .pointer (some (((oa.getD ⟨0, 0, none⟩).add (0 * 5)).add 2))) [.int .i64 aa.k, .int .i64 aa.re, .int .i64 aa.im] (by intros; kernel_rfl) (by intros; kernel_rfl) (fun ids w2 hp hf => (flat_part an_len (exC hf.x.1.1.1.1) hget (o := 2) [.int .i64 aa.k, .int .i64 aa.re, .int .i64 aa.im] (fun j u hj => by rcases j with _ | _ | _ | j; exact hj; exact hj; exact hj; cases hj) (by simp)).2 _ (fun q => q)) (by kernel_rfl) oneNil ?_
    refine node_lit (t := 45) (e := 66) (len := 2) (sz := 12) (evcs [evA d, evB d (aa.k, aa.re, aa.im)]) #[(0, .agg (evA d).cells.toArray), (1, .agg (evB d (aa.k, aa.re, aa.im)).cells.toArray)] (fun ids => Eq.trans (b := #[(0, .agg (evA ⟨IntKind.i64.wrap ((k : Int) + 1), 1, 0, c.op⟩).cells.toArray), (1, .agg (evB ⟨IntKind.i64.wrap ((k : Int) + 1), 1, 0, c.op⟩ (aa.k, aa.re, aa.im)).cells.toArray)]) (by kernel_rfl) (by rw [hwk, ed])) (fun w => lit_ev2 _ _ w) rfl (by unfold maxLen; decide) (by intros; kernel_rfl) (by kernel_rfl) (by kernel_rfl) (by intros; kernel_rfl) ?_
    intro le hle
    refine node_appends (e := 66) (sz := 12) (bytes := 96) (rest := ((EX.and ((voAll hs).and (pvR z.v))).and (vrow ah2 ch2 (hs ++ [z]))).and (vrow ap2 cp2 (ps ++ [⟨I.sl + 1, 0, 0, x⟩]))) rfl (by kernel_rfl) info_ev rfl (by decide) ae evs.length ce (evcs evs) (fun _ => le) 2 2 (evcs [evA d, evB d (aa.k, aa.re, aa.im)]) rfl (fun ids w2 hp hf => hf.x.1.1.1.2) (fun ids w2 hp hf => rw_cells hf.x.2) (ev_one _) (fun w2 h => ⟨⟨⟨h.1.1.1.1, h.1.1.2⟩, h.1.2⟩, fun q hq => by
        rcases hq with (q1 | q2) | q3
        · exact .inl (.inl (.inl (.inl q1)))
        · exact .inl (.inl (.inr q2))
        · exact .inl (.inr q3)⟩) (fun q i1 i2 => .inl (.inl (.inl (.inr ⟨i1, i2⟩)))) (fun q i1 i2 hq => by
        rcases hq with ((q1 | q2 | q3) | q4) | q5
        · exact (hn2 q q1).2 (.inl (.inl (.inr ⟨i1, i2⟩)))
        · exact (o4 q ⟨i1, i2⟩).2 (.inl (.inr q2))
        · exact (hpv q q3).2 (.inl (.inr ⟨i1, i2⟩))
        · exact hdA q q4.1 q4.2 (.inl (.inr ⟨i1, i2⟩))
        · exact (hPf q q5).2 (.inl (.inr ⟨i1, i2⟩))) (fun q i1 i2 => .inl (o4 q ⟨i1, i2⟩).1) (by unfold maxLen; omega) (by omega) (by intros; kernel_rfl) (by intros; kernel_rfl) (by intros; kernel_rfl) (by kernel_rfl) (by kernel_rfl) (by intros; kernel_rfl) ?_
    intro ae2 ce2 _ hdE hwE
    have erE : HX.rw 12 66 ae2 (evs.length + 2) ce2 (evcs evs ++ evcs [evA d, evB d (aa.k, aa.re, aa.im)]) = erow ae2 ce2 (evs ++ [evA d, evB d (aa.k, aa.re, aa.im)]) := by unfold erow; rw [evcs_snoc2, List.length_append]; rfl
    refine holds_eq (congrArg _ erE) ?_
    have hE3 : ∀ q, (erow ae2 ce2 (evs ++ [evA d, evB d (aa.k, aa.re, aa.im)])).F q → w.heap.size ≤ q := fun q hq => by
      rcases hwE q hq.1 hq.2 with ⟨y1, y2⟩ | y
      · exact (o4 q ⟨y1, y2⟩).1
      · exact y.1
    have hl1 : (hs ++ [z]).length = hs.length + 1 := by rw [List.length_append]; rfl
    have hl2 : (evs ++ [evA d, evB d (aa.k, aa.re, aa.im)]).length = evs.length + 2 := by rw [List.length_append]; rfl
    have hl3 : (ps ++ [(⟨I.sl + 1, 0, 0, x⟩ : Vo Pv)]).length = ps.length + 1 := by rw [List.length_append]; rfl
    have epv : (voAll hs).and (pvR z.v) = voAll (hs ++ [z]) := (voAll_snoc hs z).symm
    rw [epv] at hdA hdE hPf ⊢
    have hi1 : I64 (I.sl + 1) := by unfold I64; omega
    have hvp2 : vlsOf (ps ++ [(⟨I.sl + 1, 0, 0, x⟩ : Vo Pv)]) = vlsOf ps ++ [⟨I.sl + 1, 0, 0, if (L.length : Int) = kk then vz else bt d⟩] := by
      unfold vlsOf
      rw [List.map_append, ex]
      by_cases q : (L.length : Int) = kk
      · rw [if_pos q, if_pos q]; rfl
      · rw [if_neg q, if_neg q, ez]; rfl
    have hev2 : evs ++ [evA d, evB d (aa.k, aa.re, aa.im)] = evsOf (L ++ [(d, aa)]) := by rw [evsOf_snoc, X.hev]; rfl
    refine again_V ⟨IntKind.i64.wrap ((k : Int) + 1) :: imI R.i, [], [], [hs.length + 1, ch2, evs.length + 2, ce2, ps.length + 1, cp2, R.i.mem.length, h1, R.i.tb.length, h2], [ah2, ae2, ap2, g1, g2]⟩ rfl (by intros; kernel_rfl) (loH R.i g1 g2 h2 es2 (hs ++ [z]) ah2 ch2 (evs ++ [evA d, evB d (aa.k, aa.re, aa.im)]) ae2 ce2 (ps ++ [⟨I.sl + 1, 0, 0, x⟩]) ap2 cp2) (fun w2 ids hf => by
      rw [eEX] at hf
      exact ⟨⟨⟨⟨⟨hf.x.1.1.1.1.1, hf.x.1.1.1.2⟩, hf.x.1.1.2⟩, hf.x.2⟩, hf.x.1.2⟩, fun j hj => hf.sep j (by
        rcases hj with (((y | y) | y) | y) | y
        · exact .inl (.inl (.inl (.inl (.inl y))))
        · exact .inl (.inl (.inl (.inr y)))
        · exact .inl (.inl (.inr y))
        · exact .inr y
        · exact .inl (.inr y))⟩) ⟨20 - (k + 1), by omega, k + 1, R.i, hs ++ [z], L ++ [(d, aa)], evs ++ [evA d, evB d (aa.k, aa.re, aa.im)], Ip2, ps ++ [⟨I.sl + 1, 0, 0, x⟩], Lp2, g1, h1, g2, h2, es2, ah2, ch2, ae2, ce2, ap2, cp2, rfl, ⟨by rw [hvl2, hvp2]; exact hPl2, by omega, hev2, hm2, fun y hy => by
        rcases List.mem_append.1 hy with hy | hy
        · exact X.fit y hy
        · rw [List.mem_singleton.1 hy, ez]; exact ⟨hi1, bt_fit d⟩, fun y hy => by
        rcases List.mem_append.1 hy with hy | hy
        · exact X.fitp y hy
        · rw [List.mem_singleton.1 hy, ex]
          refine ⟨hi1, ?_⟩
          by_cases q : (L.length : Int) = kk
          · rw [if_pos q]; exact vz_fit
          · rw [if_neg q, ez]; exact bt_fit d, fun y hy => by
        rcases List.mem_append.1 hy with hy | hy
        · rcases X.sub y hy with q | ⟨u, hu, q⟩
          · exact .inl q
          · exact .inr ⟨u, List.mem_append_left _ hu, q⟩
        · rw [List.mem_singleton.1 hy, ex]
          by_cases q : (L.length : Int) = kk
          · rw [if_pos q]; exact .inl rfl
          · rw [if_neg q]; exact .inr ⟨z, List.mem_append_right _ (List.mem_singleton.2 rfl), rfl⟩, by omega, fun q hq => ⟨hA3 q hq, fun y => hdA q hq.1 hq.2 (.inl (.inl (by
        rcases y with y | y
        · rw [eEX]; exact .inl (.inl y)
        · exact .inr y)))⟩, fun q hq => ⟨hE3 q hq, fun y => hdE q hq.1 hq.2 (.inl (by
        rcases y with (y | y) | y
        · rw [eEX]; exact .inl (.inl (.inl y))
        · exact .inl (.inr y)
        · exact .inr y))⟩, fun q hq => ⟨(hPf q hq).1, fun y => by
        rcases y with ((y | y) | y) | y
        · exact (hPf q hq).2 (.inl (.inl (.inl (by rw [eEX]; exact .inl y))))
        · exact (hPf q hq).2 (.inl (.inl (.inr y)))
        · exact (hPf q hq).2 (.inr y)
        · exact hdE q y.1 y.2 (.inr hq)⟩⟩, by rw [hwk, hl1, hl2, hl3], rfl⟩
  rintro vs hx hcnt9 ⟨k, I, hs, L, evs, Ip, ps, Lp, a1, c1, a2, c2, es, ah, ch, ae, ce, ap, cpp, X, rfl, rfl⟩
  have hvl := vlsOf_len hs
  have hvp := vlsOf_len ps
  have hPl := X.pl
  have hLl := hPl.si.len
  have hpl := hPl.pl
  have hlen := X.len
  have hel2 : evs.length = 2 * L.length := by rw [X.hev, evsOf_len]
  have hkys : ∀ e ∈ evs, KyFit e.key := by
    rw [X.hev]
    refine evs_keys fun z hz => ?_
    obtain ⟨z1, z2, z3, _⟩ := hPl.items z hz
    have := X.k20
    exact ⟨⟨by show _ ≤ z.1.sess; omega, by show z.1.sess ≤ _; omega⟩, by show _ ≤ z.1.seq; omega, by show z.1.seq ≤ _; omega⟩
  refine holds_env (ρ' := ⟨kk :: (imI (firstI [1]) ++ imI I), [true], [], [cs.length, cp, 1, 1, 1, y1, 0, y2, 0, 0, 0, 0, 0, 0] ++ [hs.length, ch, evs.length, ce, ps.length, cpp, I.mem.length, c1, I.tb.length, c2], [a, la, x1, x2, lb, lc, ld] ++ [ah, ae, ap, a1, a2]⟩) (by kernel_rfl) ?_
  obtain ⟨H0, eH0⟩ : ∃ X, X = loH I a1 a2 c2 es hs ah ch evs ae ce ps ap cpp := ⟨_, rfl⟩
  have p2 : ∀ {w2 : World}, H0.X w2 → (voAll hs).X w2 := fun h => by rw [eH0] at h; exact h.1.1.1.2
  have p3 : ∀ {w2 : World}, H0.X w2 → (vrow ah ch hs).X w2 := fun h => by rw [eH0] at h; exact h.1.1.2
  have p4 : ∀ {w2 : World}, H0.X w2 → (erow ae ce evs).X w2 := fun h => by rw [eH0] at h; exact h.1.2
  have p5 : ∀ {w2 : World}, H0.X w2 → (vrow ap cpp ps).X w2 := fun h => by rw [eH0] at h; exact h.2
  rw [← eH0]
  have T6 : ∀ {S : Stack}, tLLostt6.holds ⟨Try.prog, w, fun _ => False, PureAt w (.bool true)⟩ ⟨kk :: (imI (firstI [1]) ++ imI I), [true], [], [cs.length, cp, 1, 1, 1, y1, 0, y2, 0, 0, 0, 0, 0, 0] ++ [hs.length, ch, evs.length, ce, ps.length, cpp, I.mem.length, c1, I.tb.length, c2], [a, la, x1, x2, lb, lc, ld] ++ [ah, ae, ap, a1, a2]⟩ [] H0 S := fun {S} => by
    refine node_lit (t := 33) (e := 3) (len := 1) (sz := 1) [.int .i64 1] #[(0, .int .i64 1)] (by intros; kernel_rfl) (fun w => lit_1 w) rfl (by unfold maxLen; decide) (by intros; kernel_rfl) (by kernel_rfl) (by kernel_rfl) (by intros; kernel_rfl) ?_
    intro lq hlq
    refine node_vonew hs (fun _ => #[.slice ah hs.length ch]) (by intros; kernel_rfl) (fun ids w2 hp hf2 => copied_any ah ch hs w2 (vox_of ⟨p2 hf2.x.1, p3 hf2.x.1⟩) (fun x hx => (X.fit x hx).2) (by omega)) (by intros; kernel_rfl) (by kernel_rfl) (by kernel_rfl) (by intros; kernel_rfl) ?_
    intro b2 d2 ys hv hfr
    refine node_PI ⟨[0], [], [], [], []⟩ (fun _ => #[.slice lq 1 1, .slice b2 ys.length d2, .slice ae evs.length ce, .bool false]) (.int .i64 0) (by intros; kernel_rfl) (by intros; kernel_rfl) (by kernel_rfl) (by kernel_rfl) (by kernel_rfl) oneNil (fun ids w2 hp hf => ?_) (pure_done (by intros; kernel_rfl))
    have hyl : ys.length = hs.length := by rw [← vlsOf_len ys, hv, vlsOf_len]
    have := jcheck_any lq 1 [1] b2 d2 ys ae ce evs false w2 (i1 (rw_cells hf.x.1.2)) (by decide) (vox_of hf.x.2) (fun x hx => (vls_fit hv X.fit x hx).2) (by omega) (rw_cells (p4 hf.x.1.1)) hkys (by omega)
    rw [hv, X.hev, hPl.right, ← X.hev] at this
    exact this
  refine br_D (p := kk < 0) (by kernel_rfl) (fun _ => T6) (fun h0 => ?_)
  refine br_D (p := kk ≥ (hs.length : Int)) (by kernel_rfl) (fun _ => T6) (fun h1 => ?_)
  obtain ⟨q, eq⟩ : ∃ q : Nat, kk = (q : Int) := ⟨kk.toNat, by omega⟩
  have hql : q < L.length := by omega
  obtain ⟨z, hz⟩ : ∃ z, L[q]? = some z := ⟨_, List.getElem?_eq_getElem hql⟩
  obtain ⟨E1, eE1⟩ : ∃ E, E = evsOf (L.take q) := ⟨_, rfl⟩
  obtain ⟨E2, eE2⟩ : ∃ E, E = evsOf (L.drop (q + 1)) := ⟨_, rfl⟩
  obtain ⟨A, eA⟩ : ∃ A, A = evA z.1 := ⟨_, rfl⟩
  obtain ⟨B, eB⟩ : ∃ B, B = evB z.1 (itRes z) := ⟨_, rfl⟩
  have hE1 : E1.length = 2 * q := by rw [eE1, evsOf_len, List.length_take]; omega
  have hevs : evs = E1 ++ A :: B :: E2 := by
    rw [X.hev, eE1, eE2, eA, eB]
    conv => lhs; rw [cut_at hz]
    rw [evsOf_app, evsOf_app, List.append_assoc]; rfl
  have hl12 : evs.length = (E1 ++ A :: B :: E2).length := by rw [← hevs]
  have hlO : (E1 ++ A :: k3 B :: E2).length = evs.length := by rw [hl12]; simp
  have hlL : (E1 ++ k3 A :: B :: E2).length = evs.length := by rw [hl12]; simp
  have kA : KyFit A.key := hkys A (by rw [hevs]; simp)
  have kB : KyFit B.key := hkys B (by rw [hevs]; simp)
  have kO : ∀ e ∈ E1 ++ A :: k3 B :: E2, KyFit e.key := fun e he => by
    simp only [List.mem_append, List.mem_cons] at he
    rcases he with he | rfl | rfl | he
    · exact hkys e (by rw [hevs]; exact List.mem_append_left _ he)
    · exact kA
    · exact kB
    · exact hkys e (by rw [hevs]; exact List.mem_append_right _ (List.mem_cons_of_mem _ (List.mem_cons_of_mem _ he)))
  have kL : ∀ e ∈ E1 ++ k3 A :: B :: E2, KyFit e.key := fun e he => by
    simp only [List.mem_append, List.mem_cons] at he
    rcases he with he | rfl | rfl | he
    · exact hkys e (by rw [hevs]; exact List.mem_append_left _ he)
    · exact kA
    · exact kB
    · exact hkys e (by rw [hevs]; exact List.mem_append_right _ (List.mem_cons_of_mem _ (List.mem_cons_of_mem _ he)))
  have htk : evs.take (2 * q + 2) = E1 ++ [A, B] := by
    rw [hevs, List.take_append, hE1, List.take_of_length_le (by omega), show 2 * q + 2 - 2 * q = 2 by omega]; rfl
  have verO := (hPl.lost eq hz (e := k3 B) rfl).2.1
  have verL := (hPl.lost eq hz (e := k3 A) rfl).2.2 E2
  have verP := (hPl.lost eq hz (e := k3 A) rfl).1
  rw [← eE1, ← eA, ← eE2] at verO
  rw [← eE1, ← eB] at verL
  rw [← eE1, ← eA, ← eB] at verP
  have w2k : IntKind.i64.wrap (2 * kk) = 2 * (q : Int) := by rw [wrap_i64 (by omega)]; omega
  have w2k1 : IntKind.i64.wrap (IntKind.i64.wrap (2 * kk) + 1) = ((2 * q + 1 : Nat) : Int) := by rw [w2k, wrap_i64 (by omega)]; omega
  have w2k0 : IntKind.i64.wrap (2 * kk) = ((2 * q : Nat) : Int) := by rw [w2k]; omega
  have w2k2 : IntKind.i64.wrap (IntKind.i64.wrap (2 * kk) + 2) = ((2 * q + 2 : Nat) : Int) := by rw [w2k, wrap_i64 (by omega)]; omega
  refine node_lit (t := 45) (e := 66) (len := 0) (sz := 12) [] #[] (by intros; kernel_rfl) (fun w => lit_ev0 w) rfl (by unfold maxLen; decide) (by intros; kernel_rfl) (by kernel_rfl) (by kernel_rfl) (by intros; kernel_rfl) ?_
  intro lx hlx
  refine node_appendsS (e := 66) (sz := 12) (bytes := 96) (rest := H0) rfl (by kernel_rfl) info_ev rfl (by decide) lx 0 0 [] (fun _ => ae) evs.length ce (evcs evs) (by omega) (flat_len ev_len evs) (fun ids w2 hp hf => hf.x.2) (fun ids w2 hp hf => rw_cells (p4 hf.x.1)) (ev_one _) (fun w2 h => ⟨h.1, fun k hk => .inl hk⟩) (fun k i1 i2 => absurd rfl i1) (fun k i1 i2 => absurd rfl i1) (fun k i1 i2 => absurd rfl i1) (by unfold maxLen; omega) (by omega) (by intros; kernel_rfl) (by intros; kernel_rfl) (by intros; kernel_rfl) (by kernel_rfl) (by kernel_rfl) (by intros; kernel_rfl) ?_
  intro lo co hlo hdO hwO
  refine need_k (lo.isSome = true ∧ (0 : Int) ≤ IntKind.i64.wrap (IntKind.i64.wrap (2 * kk) + 1) ∧ IntKind.i64.wrap (IntKind.i64.wrap (2 * kk) + 1) < ((0 + evs.length : Nat) : Int)) (by kernel_rfl) ⟨hlo, by rw [w2k1]; omega, by rw [w2k1]; omega⟩ ?_
  refine node_stores (sz := 12) lo (0 + evs.length) co ([] ++ evcs evs) [.int .i64 3] (2 * q + 1) 0 (.int .i64 3) (by kernel_rfl) (fun ids => Eq.trans (b := .pointer (some (((lo.getD ⟨0, 0, none⟩).add ((IntKind.i64.wrap (IntKind.i64.wrap (2 * kk) + 1)).toNat * 12)).add 0))) (by kernel_rfl) (by rw [w2k1]; rfl)) (by intros; kernel_rfl) rfl (by simp [Value.oneCell']) (by simp; omega) (by simp) hdO (fun k i1 i2 => by
    rcases hwO k i1 i2 with y | y
    · exact absurd rfl y.1
    · exact .inl y.1) (by kernel_rfl) (by kernel_rfl) (by kernel_rfl) ?_
  obtain ⟨RO, eRO⟩ : ∃ X, X = HX.rw 12 66 lo (0 + evs.length) co (evcs (E1 ++ A :: k3 B :: E2)) := ⟨_, rfl⟩
  refine holds_eq (congrArg _ (show HX.rw 12 66 lo (0 + evs.length) co (spl ([] ++ evcs evs) ((2 * q + 1) * 12 + 0) [.int .i64 3]) = RO from by
    rw [eRO, List.nil_append, hevs, show E1 ++ A :: B :: E2 = (E1 ++ [A]) ++ B :: E2 by simp, spl_ev (by rw [List.length_append, hE1]; rfl)]
    simp)) ?_
  refine node_lit (t := 45) (e := 66) (len := 0) (sz := 12) [] #[] (by intros; kernel_rfl) (fun w => lit_ev0 w) rfl (by unfold maxLen; decide) (by intros; kernel_rfl) (by kernel_rfl) (by kernel_rfl) (by intros; kernel_rfl) ?_
  intro lx2 hlx2
  refine node_appendsS (e := 66) (sz := 12) (bytes := 96) (rest := H0.and RO) rfl (by kernel_rfl) info_ev rfl (by decide) lx2 0 0 [] (fun _ => ae) evs.length ce (evcs evs) (by omega) (flat_len ev_len evs) (fun ids w2 hp hf => hf.x.2) (fun ids w2 hp hf => rw_cells (p4 hf.x.1.1)) (ev_one _) (fun w2 h => ⟨h.1, fun k hk => .inl hk⟩) (fun k i1 i2 => absurd rfl i1) (fun k i1 i2 => absurd rfl i1) (fun k i1 i2 => absurd rfl i1) (by unfold maxLen; omega) (by omega) (by intros; kernel_rfl) (by intros; kernel_rfl) (by intros; kernel_rfl) (by kernel_rfl) (by kernel_rfl) (by intros; kernel_rfl) ?_
  intro lp co2 hlp hdL hwL
  refine need_k (lp.isSome = true ∧ (0 : Int) ≤ IntKind.i64.wrap (2 * kk) ∧ IntKind.i64.wrap (2 * kk) < ((0 + evs.length : Nat) : Int)) (by kernel_rfl) ⟨hlp, by rw [w2k0]; omega, by rw [w2k0]; omega⟩ ?_
  refine node_stores (sz := 12) lp (0 + evs.length) co2 ([] ++ evcs evs) [.int .i64 3] (2 * q) 0 (.int .i64 3) (by kernel_rfl) (fun ids => Eq.trans (b := .pointer (some (((lp.getD ⟨0, 0, none⟩).add ((IntKind.i64.wrap (2 * kk)).toNat * 12)).add 0))) (by kernel_rfl) (by rw [w2k0]; rfl)) (by intros; kernel_rfl) rfl (by simp [Value.oneCell']) (by simp; omega) (by simp) hdL (fun k i1 i2 => by
    rcases hwL k i1 i2 with y | y
    · exact absurd rfl y.1
    · exact .inl y.1) (by kernel_rfl) (by kernel_rfl) (by kernel_rfl) ?_
  obtain ⟨RL, eRL⟩ : ∃ X, X = HX.rw 12 66 lp (0 + evs.length) co2 (evcs (E1 ++ k3 A :: B :: E2)) := ⟨_, rfl⟩
  refine holds_eq (congrArg _ (show HX.rw 12 66 lp (0 + evs.length) co2 (spl ([] ++ evcs evs) (2 * q * 12 + 0) [.int .i64 3]) = RL from by
    rw [eRL, List.nil_append, hevs, spl_ev hE1.symm])) ?_
  have cO : ∀ {w2 : World}, RO.X w2 → Cells w2 lo (evcs (E1 ++ A :: k3 B :: E2)) := fun h => by rw [eRO] at h; exact rw_cells h
  have cL : ∀ {w2 : World}, RL.X w2 → Cells w2 lp (evcs (E1 ++ k3 A :: B :: E2)) := fun h => by rw [eRL] at h; exact rw_cells h
  have T5 : ∀ (u1 u2 u3 u4 : Nat) (p1 p2' : Option Addr) (VP : HX) (b2 : Option Addr) (d2 : Nat) (ys2 : List (Vo Pv)) {S : Stack}, vlsOf ys2 = vlsOf hs → tLLostt5.holds ⟨Try.prog, w, fun _ => False, PureAt w (.bool true)⟩ ⟨kk :: (imI (firstI [1]) ++ imI I ++ [63]), [true], [], [cs.length, cp, 1, 1, 1, y1, 0, y2, 0, 0, 0, 0, 0, 0] ++ [hs.length, ch, evs.length, ce, ps.length, cpp, I.mem.length, c1, I.tb.length, c2] ++ [0, 0, 0 + evs.length, co, 0, 0, 0 + evs.length, co2, u1, u2, u3, u4, ys2.length, d2], [a, la, x1, x2, lb, lc, ld] ++ [ah, ae, ap, a1, a2] ++ [lx, lo, lx2, lp, p1, p2', b2]⟩ [] ((((H0.and RO).and RL).and VP).and ((voAll ys2).and (vrow b2 d2 ys2))) S := fun u1 u2 u3 u4 p1 p2' VP b2 d2 ys2 {S} hv2 => by
    have hyl2 : ys2.length = hs.length := by rw [← vlsOf_len ys2, hv2, vlsOf_len]
    refine node_PI ⟨[0], [], [], [], []⟩ (fun ids => #[.slice (some ⟨idAt ids 2, 0, none⟩) 1 1, .slice b2 ys2.length d2, .slice lo (0 + evs.length) co, .bool false]) (.int .i64 0) (by intros; kernel_rfl) (by intros; kernel_rfl) (by kernel_rfl) (by kernel_rfl) (by kernel_rfl) oneNil (fun ids w2 hp hf => ?_) ?_
    · have := jcheck_any (some ⟨idAt ids 2, 0, none⟩) 1 [1] b2 d2 ys2 lo co (E1 ++ A :: k3 B :: E2) false w2 (ints_blk hf 2 3 [.int .i64 (.lit 1)] [1] rfl (by kernel_rfl) (by decide) (by unfold I64; decide)) (by decide) (vox_of hf.x.2) (fun x hx => (vls_fit hv2 X.fit x hx).2) (by omega) (cO hf.x.1.1.1.2) kO (by omega)
      rw [hv2, verO, hlO] at this
      rw [Nat.zero_add]; exact this
    refine br_t (by kernel_rfl) ?_
    refine par_i ?_ ?_
    all_goals
      refine node_vonew hs (fun _ => #[.slice ah hs.length ch]) (by intros; kernel_rfl) (fun ids w2 hp hf2 => copied_any ah ch hs w2 (vox_of ⟨p2 hf2.x.1.1.1.1, p3 hf2.x.1.1.1.1⟩) (fun x hx => (X.fit x hx).2) (by omega)) (by intros; kernel_rfl) (by kernel_rfl) (by kernel_rfl) (by intros; kernel_rfl) ?_
      intro b3 d3 ys3 hv3 hfr3
      refine node_PI ⟨[41], [], [], [], []⟩ (fun ids => #[.slice (some ⟨idAt ids 3, 0, none⟩) 1 1, .slice b3 ys3.length d3, .slice lp (0 + evs.length) co2, .bool false]) (.int .i64 41) (by intros; kernel_rfl) (by intros; kernel_rfl) (by kernel_rfl) (by kernel_rfl) (by kernel_rfl) oneNil (fun ids w2 hp hf => ?_) (pure_done (by intros; kernel_rfl))
      have hyl3 : ys3.length = hs.length := by rw [← vlsOf_len ys3, hv3, vlsOf_len]
      have := jcheck_any (some ⟨idAt ids 3, 0, none⟩) 1 [1] b3 d3 ys3 lp co2 (E1 ++ k3 A :: B :: E2) false w2 (ints_blk hf 3 3 [.int .i64 (.lit 1)] [1] rfl (by kernel_rfl) (by decide) (by unfold I64; decide)) (by decide) (vox_of hf.x.2) (fun x hx => (vls_fit hv3 X.fit x hx).2) (by omega) (cL hf.x.1.1.1.2) kL (by omega)
      rw [hv3, verL, hlL] at this
      rw [Nat.zero_add]; exact this
  have T4 : ∀ (u1 u2 u3 u4 : Nat) (p1 p2' : Option Addr) (VP : HX) {S : Stack}, tLLostt4.holds ⟨Try.prog, w, fun _ => False, PureAt w (.bool true)⟩ ⟨kk :: (imI (firstI [1]) ++ imI I ++ [63]), [true], [], [cs.length, cp, 1, 1, 1, y1, 0, y2, 0, 0, 0, 0, 0, 0] ++ [hs.length, ch, evs.length, ce, ps.length, cpp, I.mem.length, c1, I.tb.length, c2] ++ [0, 0, 0 + evs.length, co, 0, 0, 0 + evs.length, co2, u1, u2, u3, u4], [a, la, x1, x2, lb, lc, ld] ++ [ah, ae, ap, a1, a2] ++ [lx, lo, lx2, lp, p1, p2']⟩ [] (((H0.and RO).and RL).and VP) S := fun u1 u2 u3 u4 p1 p2' VP {S} => by
    refine br_t (by kernel_rfl) ?_
    refine par_i ?_ ?_
    all_goals
      refine node_vonew hs (fun _ => #[.slice ah hs.length ch]) (by intros; kernel_rfl) (fun ids w2 hp hf2 => copied_any ah ch hs w2 (vox_of ⟨p2 hf2.x.1.1.1, p3 hf2.x.1.1.1⟩) (fun x hx => (X.fit x hx).2) (by omega)) (by intros; kernel_rfl) (by kernel_rfl) (by kernel_rfl) (by intros; kernel_rfl) ?_
      intro b2 d2 ys2 hv2 hfr2
      exact holds_env (by kernel_rfl) (T5 u1 u2 u3 u4 p1 p2' VP b2 d2 ys2 hv2)
  have chkP : ∀ {ids : List Nat} {w2 : World} {b1 : Option Addr} {d1 : Nat} {ys1 : List (Vo Pv)}, vlsOf ys1 = vlsOf ps → ((((H0.and RO).and RL).and ((voAll ys1).and (vrow b1 d1 ys1)))).X w2 → Ints w2 (some ⟨idAt ids 1, 0, none⟩) [1] → Calls Try.prog 14 #[.slice (some ⟨idAt ids 1, 0, none⟩) 1 1, .slice b1 ys1.length d1, .slice (sliA ae 0 ce 12) (2 * q + 2) ce, .bool false] w2 (PureAt w2 (.int .i64 63)) := fun {ids w2 b1 d1 ys1} hv1 hX hi => by
    have hyl1 : ys1.length = ps.length := by rw [← vlsOf_len ys1, hv1, vlsOf_len]
    have hrow := p4 hX.1.1.1
    have hce := (rw_le hrow).1
    have hlt : (evs.take (2 * q + 2)).length = 2 * q + 2 := by rw [List.length_take]; omega
    have := jcheck_any (some ⟨idAt ids 1, 0, none⟩) 1 [1] b1 d1 ys1 (sliA ae 0 ce 12) ce (evs.take (2 * q + 2)) false w2 hi (by decide) (vox_of hX.2) (fun x hx => (vls_fit hv1 X.fitp x hx).2) (by omega) (ev_pre (rw_cells hrow) hce _ (by omega)) (fun e he => hkys e (List.mem_of_mem_take he)) (by omega)
    rw [hlt, hv1, htk, verP] at this
    exact this
  refine par_i (par_i ?_ ?_) (par_i ?_ ?_)
  · refine node_vonew ps (fun _ => #[.slice ap ps.length cpp]) (by intros; kernel_rfl) (fun ids w2 hp hf2 => copied_any ap cpp ps w2 (vox_sub (p2 hf2.x.1.1) (p5 hf2.x.1.1) X.sub) (fun x hx => (X.fitp x hx).2) (by omega)) (by intros; kernel_rfl) (by kernel_rfl) (by kernel_rfl) (by intros; kernel_rfl) ?_
    intro b1 d1 ys1 hv1 hfr1
    refine node_upto (n := evs.length) (cap := ce) (u := 2 * q + 2) (sz := 12) ae (by kernel_rfl) (by kernel_rfl) info_ev (by intros; kernel_rfl) (fun ids => Eq.trans (b := .int .i64 (IntKind.i64.wrap (IntKind.i64.wrap (2 * kk) + 2))) (by kernel_rfl) (by rw [w2k2])) (fun ids w2 hf => by have := (rw_le (p4 (hf.x.1.1.1))).1; omega) (by intros; kernel_rfl) (by kernel_rfl) (by kernel_rfl) (by kernel_rfl) ?_
    refine node_PI ⟨[63], [], [], [], []⟩ (fun ids => #[.slice (some ⟨idAt ids 1, 0, none⟩) 1 1, .slice b1 ys1.length d1, .slice (sliA ae 0 ce 12) (2 * q + 2) ce, .bool false]) (.int .i64 63) (by intros; kernel_rfl) (by intros; kernel_rfl) (by kernel_rfl) (by kernel_rfl) (by kernel_rfl) oneNil (fun ids w2 hp hf => chkP hv1 hf.x (ints_blk hf 1 3 [.int .i64 (.lit 1)] [1] rfl (by kernel_rfl) (by decide) (by unfold I64; decide))) ?_
    exact holds_env (by kernel_rfl) (T4 ys1.length d1 (2 * q + 2) ce b1 (sliA ae 0 ce 12) _)
  · refine node_upto (n := evs.length) (cap := ce) (u := 2 * q + 2) (sz := 12) ae (by kernel_rfl) (by kernel_rfl) info_ev (by intros; kernel_rfl) (fun ids => Eq.trans (b := .int .i64 (IntKind.i64.wrap (IntKind.i64.wrap (2 * kk) + 2))) (by kernel_rfl) (by rw [w2k2])) (fun ids w2 hf => by have := (rw_le (p4 (hf.x.1.1))).1; omega) (by intros; kernel_rfl) (by kernel_rfl) (by kernel_rfl) (by kernel_rfl) ?_
    refine node_vonew ps (fun _ => #[.slice ap ps.length cpp]) (by intros; kernel_rfl) (fun ids w2 hp hf2 => copied_any ap cpp ps w2 (vox_sub (p2 hf2.x.1.1) (p5 hf2.x.1.1) X.sub) (fun x hx => (X.fitp x hx).2) (by omega)) (by intros; kernel_rfl) (by kernel_rfl) (by kernel_rfl) (by intros; kernel_rfl) ?_
    intro b1 d1 ys1 hv1 hfr1
    refine node_PI ⟨[63], [], [], [], []⟩ (fun ids => #[.slice (some ⟨idAt ids 1, 0, none⟩) 1 1, .slice b1 ys1.length d1, .slice (sliA ae 0 ce 12) (2 * q + 2) ce, .bool false]) (.int .i64 63) (by intros; kernel_rfl) (by intros; kernel_rfl) (by kernel_rfl) (by kernel_rfl) (by kernel_rfl) oneNil (fun ids w2 hp hf => chkP hv1 hf.x (ints_blk hf 1 3 [.int .i64 (.lit 1)] [1] rfl (by kernel_rfl) (by decide) (by unfold I64; decide))) ?_
    exact holds_env (by kernel_rfl) (T4 (2 * q + 2) ce ys1.length d1 (sliA ae 0 ce 12) b1 _)
  · refine node_vonew ps (fun _ => #[.slice ap ps.length cpp]) (by intros; kernel_rfl) (fun ids w2 hp hf2 => copied_any ap cpp ps w2 (vox_sub (p2 hf2.x.1.1) (p5 hf2.x.1.1) X.sub) (fun x hx => (X.fitp x hx).2) (by omega)) (by intros; kernel_rfl) (by kernel_rfl) (by kernel_rfl) (by intros; kernel_rfl) ?_
    intro b1 d1 ys1 hv1 hfr1
    refine par_i ?_ ?_
    all_goals
      refine node_upto (n := evs.length) (cap := ce) (u := 2 * q + 2) (sz := 12) ae (by kernel_rfl) (by kernel_rfl) info_ev (by intros; kernel_rfl) (fun ids => Eq.trans (b := .int .i64 (IntKind.i64.wrap (IntKind.i64.wrap (2 * kk) + 2))) (by kernel_rfl) (by rw [w2k2])) (fun ids w2 hf => by have := (rw_le (p4 (hf.x.1.1.1))).1; omega) (by intros; kernel_rfl) (by kernel_rfl) (by kernel_rfl) (by kernel_rfl) ?_
      refine node_PI ⟨[63], [], [], [], []⟩ (fun ids => #[.slice (some ⟨idAt ids 1, 0, none⟩) 1 1, .slice b1 ys1.length d1, .slice (sliA ae 0 ce 12) (2 * q + 2) ce, .bool false]) (.int .i64 63) (by intros; kernel_rfl) (by intros; kernel_rfl) (by kernel_rfl) (by kernel_rfl) (by kernel_rfl) oneNil (fun ids w2 hp hf => chkP hv1 hf.x (ints_blk hf 1 3 [.int .i64 (.lit 1)] [1] rfl (by kernel_rfl) (by decide) (by unfold I64; decide))) ?_
      exact holds_env (by kernel_rfl) (T4 ys1.length d1 (2 * q + 2) ce b1 (sliA ae 0 ce 12) _)
  · refine node_upto (n := evs.length) (cap := ce) (u := 2 * q + 2) (sz := 12) ae (by kernel_rfl) (by kernel_rfl) info_ev (by intros; kernel_rfl) (fun ids => Eq.trans (b := .int .i64 (IntKind.i64.wrap (IntKind.i64.wrap (2 * kk) + 2))) (by kernel_rfl) (by rw [w2k2])) (fun ids w2 hf => by have := (rw_le (p4 (hf.x.1.1))).1; omega) (by intros; kernel_rfl) (by kernel_rfl) (by kernel_rfl) (by kernel_rfl) ?_
    refine par_i ?_ ?_
    all_goals
      refine node_vonew ps (fun _ => #[.slice ap ps.length cpp]) (by intros; kernel_rfl) (fun ids w2 hp hf2 => copied_any ap cpp ps w2 (vox_sub (p2 hf2.x.1.1) (p5 hf2.x.1.1) X.sub) (fun x hx => (X.fitp x hx).2) (by omega)) (by intros; kernel_rfl) (by kernel_rfl) (by kernel_rfl) (by intros; kernel_rfl) ?_
      intro b1 d1 ys1 hv1 hfr1
      refine node_PI ⟨[63], [], [], [], []⟩ (fun ids => #[.slice (some ⟨idAt ids 1, 0, none⟩) 1 1, .slice b1 ys1.length d1, .slice (sliA ae 0 ce 12) (2 * q + 2) ce, .bool false]) (.int .i64 63) (by intros; kernel_rfl) (by intros; kernel_rfl) (by kernel_rfl) (by kernel_rfl) (by kernel_rfl) oneNil (fun ids w2 hp hf => chkP hv1 hf.x (ints_blk hf 1 3 [.int .i64 (.lit 1)] [1] rfl (by kernel_rfl) (by decide) (by unfold I64; decide))) ?_
      exact holds_env (by kernel_rfl) (T4 (2 * q + 2) ce ys1.length d1 (sliA ae 0 ce 12) b1 _)
theorem lost_args (a : Option Addr) (cap : Nat) (ds : List Dat) (kk : Int) (w : World) (hC : Cells w a (Dat.cellsAll ds)) (hds : ∀ d ∈ ds, d.In Try.prog w 43) (hl : ds.length ≤ 9223372036854775807) (hb : ds.length * Try.prog.bytesOf 43 ≤ reachBytes) (hk : I64 kk) :
    Calls Try.prog 7 #[.slice a ds.length cap, .int .i64 kk] w (PureAt w (.bool true)) := by
  obtain ⟨cs, rfl, hcs⟩ := list_map_of cmDat CmFit ds (fun d hd => opn_cmd (hds d hd))
  rw [dat_cells] at hC
  rw [List.length_map]
  exact lost_walk a cap cs kk hk w hC
end Go.Proofs.Ytbedoemdjlollaa
