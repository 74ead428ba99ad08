/- The proposer's methods, as a caller meets them. -/
import Derived.Test.YtlgpjjgkdpmidaaPrH
namespace Go.Proofs.Ytlgpjjgkdpmidaa
open Go.ChangeShapes Go.WideShapes Go.ChangeAt Go.RowKit Go.Syn Go.Eng Go.MapKept
set_option linter.unusedVariables false
set_option linter.unusedSimpArgs false
set_option maxRecDepth 100000
def prP (F : Nat → Prop) (nb : Nat) (P : Pr Vl) : HX := HX.obj F (PrO nb P)
/-- The blocks F are the walk's own, and apart from the rest. -/
def OwnF (W : World) (M : Nat → Prop) (rest : HX) (F : Nat → Prop) : Prop := ∀ k, F k → ¬ rest.F k ∧ (W.heap.size ≤ k ∨ M k)
section
variable {W : World} {M : Nat → Prop} {RR : Ending → World → Prop} {ρ : Env} {pre : List Nat} {rest hx : HX} {S : Stack} {m m' : Mem} {args : List SV} {r : SV} {t : Tree} {F : Nat → Prop} {nb : Nat} {P : Pr Vl}
theorem node_pnew (me window : Int) (a : List Nat → Option Addr) (cap : Nat) (mem : List Int) (hargs : ∀ ids, (args.map (SV.den ρ ids)).toArray = #[.int .i64 me, .slice (a ids) mem.length cap, .int .i64 window]) (hat : ∀ ids w, pre <+: ids → Facts ⟨Try.prog, W, M, RR⟩ m ρ ids hx w → Ints w (a ids) mem) (hok : setOkB mem = true ∧ hasB mem me = true)
    (hr : ∀ v ids, r.den (ρ.add ⟨[], [], [v], [], []⟩) ids = v) (hhp : m'.hp = m.hp) (hfit : hpFits m.c m.hp.length m.hp = true) (hc : ∀ v, (ρ.add ⟨[], [], [v], [], []⟩).cnt = m'.c)
    (h : ∀ nb F, OwnF W M hx F → t.holds ⟨Try.prog, W, M, RR⟩ (ρ.add ⟨[], [], [.pointer (some ⟨nb, 0, none⟩)], [], []⟩) pre (hx.and (prP F nb (Pr.new me window mem))) S) : (Tree.call 8 args m r m' t).holds ⟨Try.prog, W, M, RR⟩ ρ pre hx S := by
  refine node_out (fun ids => #[.int .i64 me, .slice (a ids) mem.length cap, .int .i64 window]) (fun vs h' => ∃ nb F, vs = ⟨[], [], [.pointer (some ⟨nb, 0, none⟩)], [], []⟩ ∧ h' = prP F nb (Pr.new me window mem)) hargs (fun ids w hp hf => ?_) hhp hfit ?_ ?_
  · refine (pnew_any me window (a ids) cap mem w (hat ids w hp hf) hok).mono ?_
    rintro e w' ⟨nb, F', rfl, h1, h2, h3⟩
    exact ⟨_, _, ⟨nb, F', rfl, rfl⟩, by rw [hr], h1, h2, h3⟩
  · rintro vs h' ⟨nb, F', rfl, rfl⟩
    exact ⟨hc _, fun v hv => by simp only [List.mem_singleton] at hv; subst hv; rfl⟩
  · rintro vs h' ⟨nb, F', rfl, rfl⟩ hfr
    exact h nb F' fun k hk => ⟨(hfr k hk).2, .inl (hfr k hk).1⟩
theorem node_pmut {f : Nat} {P' : Pr Vl} {V : Value} (vs : Vals) (AS : List Nat → Array Value) (hown : OwnF W M rest F) (hargs : ∀ ids, (args.map (SV.den ρ ids)).toArray = AS ids)
    (hcall : ∀ ids w, pre <+: ids → Facts ⟨Try.prog, W, M, RR⟩ m ρ ids (rest.and (prP F nb P)) w → Calls Try.prog f (AS ids) w (PrMut w F nb P' V))
    (hr : ∀ ids, r.den (ρ.add vs) ids = V) (hhp : m'.hp = m.hp) (hfit : hpFits m.c m.hp.length m.hp = true) (hc : (ρ.add vs).cnt = m'.c) (h1 : ∀ v, v ∈ vs.v → v.oneCell' = true)
    (h : ∀ F', OwnF W M rest F' → t.holds ⟨Try.prog, W, M, RR⟩ (ρ.add vs) pre (rest.and (prP F' nb P')) S) : (Tree.call f args m r m' t).holds ⟨Try.prog, W, M, RR⟩ ρ pre (rest.and (prP F nb P)) S := by
  refine node_mut AS (fun vs2 h' => vs2 = vs ∧ ∃ F', h' = prP F' nb P') hargs (fun ids w hp hf => ?_) hown hhp hfit (fun vs2 h' q => by rw [q.1]; exact ⟨hc, h1⟩) ?_
  · refine (hcall ids w hp hf).mono ?_
    rintro e w' ⟨rfl, F', q1, q2, q3⟩
    exact ⟨vs, prP F' nb P', ⟨rfl, F', rfl⟩, by rw [hr], q1, q2, q3⟩
  · rintro vs2 h' ⟨rfl, F', rfl⟩ hd
    exact h F' hd
theorem psep_of {ids : List Nat} {w : World} (hf : Facts ⟨Try.prog, W, M, RR⟩ m ρ ids (rest.and (prP F nb P)) w) : ∀ k, F k → k < w.heap.size := fun k hk => (hf.sep k (.inr hk)).1
theorem papart_of {ids : List Nat} {w : World} (hown : OwnF W M rest F) (hf : Facts ⟨Try.prog, W, M, RR⟩ m ρ ids (rest.and (prP F nb P)) w) {X : HX} (hv : ∀ k, X.F k → rest.F k ∨ k ∈ ids) : ∀ k, X.F k → ¬ F k := fun k hk q => (hv k hk).elim (hown k q).1 (hf.sep k (.inr q)).2
theorem node_psub (v : Vl) (a1 : List Nat → Option Addr) (c1 : Nat) (a2 : List Nat → Option Addr) (c2 : Nat) (hown : OwnF W M rest F) (e : Int) (he : (P.submit v).2 = e) (hargs : ∀ ids, (args.map (SV.den ρ ids)).toArray = #[.pointer (some ⟨nb, 0, none⟩), vlV v (a1 ids) c1 (a2 ids) c2])
    (hat : ∀ ids w, pre <+: ids → Facts ⟨Try.prog, W, M, RR⟩ m ρ ids (rest.and (prP F nb P)) w → VlAt w v (a1 ids) (a2 ids) ∧ ∀ k, (vlX v (a1 ids) (a2 ids)).F k → rest.F k ∨ k ∈ ids)
    (hr : ∀ ids, r.den (ρ.add ⟨[e], [], [], [], []⟩) ids = .int .i64 e) (hhp : m'.hp = m.hp) (hfit : hpFits m.c m.hp.length m.hp = true) (hc : (ρ.add ⟨[e], [], [], [], []⟩).cnt = m'.c)
    (h : ∀ F', OwnF W M rest F' → t.holds ⟨Try.prog, W, M, RR⟩ (ρ.add ⟨[e], [], [], [], []⟩) pre (rest.and (prP F' nb (P.submit v).1)) S) : (Tree.call 17 args m r m' t).holds ⟨Try.prog, W, M, RR⟩ ρ pre (rest.and (prP F nb P)) S :=
  node_pmut ⟨[e], [], [], [], []⟩ (fun ids => #[.pointer (some ⟨nb, 0, none⟩), vlV v (a1 ids) c1 (a2 ids) c2]) hown hargs (fun ids w hp hf => by rw [← he]; exact sub_any v (a1 ids) c1 (a2 ids) c2 hf.x.2 (psep_of hf) (hat ids w hp hf).1 (papart_of hown hf (hat ids w hp hf).2)) hr hhp hfit hc oneNil h
theorem node_pdec (s : Int) (hown : OwnF W M rest F) (hargs : ∀ ids, (args.map (SV.den ρ ids)).toArray = #[.pointer (some ⟨nb, 0, none⟩), .int .i64 s])
    (hr : ∀ ids, r.den (ρ.add Vals.nil) ids = .tuple #[]) (hhp : m'.hp = m.hp) (hfit : hpFits m.c m.hp.length m.hp = true) (hc : (ρ.add Vals.nil).cnt = m'.c)
    (h : ∀ F', OwnF W M rest F' → t.holds ⟨Try.prog, W, M, RR⟩ (ρ.add Vals.nil) pre (rest.and (prP F' nb (P.decided s))) S) : (Tree.call 19 args m r m' t).holds ⟨Try.prog, W, M, RR⟩ ρ pre (rest.and (prP F nb P)) S :=
  node_pmut Vals.nil (fun ids => #[.pointer (some ⟨nb, 0, none⟩), .int .i64 s]) hown hargs (fun ids w hp hf => dec_any s hf.x.2 (psep_of hf)) hr hhp hfit hc oneNil h
theorem node_pcamp (rd nd frm : Int) (vs : Vals) (hown : OwnF W M rest F) (q1 : 1 ≤ frm ∧ frm ≤ 1099511627776) (q2 : balB rd nd = true) (q3 : nd = P.me) (q4 : ¬ compareV rd nd P.r P.n ≤ 0) (hargs : ∀ ids, (args.map (SV.den ρ ids)).toArray = #[.pointer (some ⟨nb, 0, none⟩), .agg #[.int .i64 rd, .int .i64 nd], .int .i64 frm])
    (hr : ∀ ids, r.den (ρ.add vs) ids = .tuple #[prepM rd nd frm, .int .i64 0]) (hhp : m'.hp = m.hp) (hfit : hpFits m.c m.hp.length m.hp = true) (hc : (ρ.add vs).cnt = m'.c) (h1 : ∀ v, v ∈ vs.v → v.oneCell' = true)
    (h : ∀ F', OwnF W M rest F' → t.holds ⟨Try.prog, W, M, RR⟩ (ρ.add vs) pre (rest.and (prP F' nb (P.begin rd nd frm))) S) : (Tree.call 9 args m r m' t).holds ⟨Try.prog, W, M, RR⟩ ρ pre (rest.and (prP F nb P)) S :=
  node_pmut vs (fun ids => #[.pointer (some ⟨nb, 0, none⟩), .agg #[.int .i64 rd, .int .i64 nd], .int .i64 frm]) hown hargs (fun ids w hp hf => camp_any rd nd frm hf.x.2 (psep_of hf) q1 q2 q3 q4) hr hhp hfit hc h1 h
theorem node_ptop (x : Int) (hx' : P.top = x) (hn : 0 ≤ P.next ∧ P.next ≤ 1099511627778) (hargs : ∀ ids, (args.map (SV.den ρ ids)).toArray = #[.pointer (some ⟨nb, 0, none⟩)]) (hr : ∀ ids, r.den (ρ.add ⟨[x], [], [], [], []⟩) ids = .int .i64 x) (hhp : m'.hp = m.hp) (hfit : hpFits m.c m.hp.length m.hp = true) (hc : (ρ.add ⟨[x], [], [], [], []⟩).cnt = m'.c)
    (h : t.holds ⟨Try.prog, W, M, RR⟩ (ρ.add ⟨[x], [], [], [], []⟩) pre (rest.and (prP F nb P)) S) : (Tree.call 21 args m r m' t).holds ⟨Try.prog, W, M, RR⟩ ρ pre (rest.and (prP F nb P)) S := by
  refine node_PI ⟨[x], [], [], [], []⟩ (fun _ => #[.pointer (some ⟨nb, 0, none⟩)]) (.int .i64 x) hargs hr hhp hfit hc oneNil (fun ids w hp hf => ?_) h
  obtain ⟨D, a, hP, hok, hnb, hB, hX, Fnb, hsub⟩ := pobj_open hf.x.2
  subst hP
  rw [← hx']
  exact ptop_any hB hX hnb (fun k hk => psep_of hf k (hsub k hk)) hn
theorem node_pstop (b : Bool) (hb : P.stop = b) (hargs : ∀ ids, (args.map (SV.den ρ ids)).toArray = #[.pointer (some ⟨nb, 0, none⟩)]) (hr : ∀ ids, r.den (ρ.add ⟨[], [b], [], [], []⟩) ids = .bool b) (hhp : m'.hp = m.hp) (hfit : hpFits m.c m.hp.length m.hp = true) (hc : (ρ.add ⟨[], [b], [], [], []⟩).cnt = m'.c)
    (h : t.holds ⟨Try.prog, W, M, RR⟩ (ρ.add ⟨[], [b], [], [], []⟩) pre (rest.and (prP F nb P)) S) : (Tree.call 23 args m r m' t).holds ⟨Try.prog, W, M, RR⟩ ρ pre (rest.and (prP F nb P)) S := by
  refine node_PI ⟨[], [b], [], [], []⟩ (fun _ => #[.pointer (some ⟨nb, 0, none⟩)]) (.bool b) hargs hr hhp hfit hc oneNil (fun ids w hp hf => ?_) h
  obtain ⟨D, a, hP, hok, hnb, hB, hX, Fnb, hsub⟩ := pobj_open hf.x.2
  subst hP
  rw [← hb]
  exact pstop_any hB hX hnb (fun k hk => psep_of hf k (hsub k hk))
theorem node_pwait (x y : Nat) (h1 : P.queue.length = x) (h2 : P.out.length = y) (hl : P.out.length ≤ 4611686018427387904) (hargs : ∀ ids, (args.map (SV.den ρ ids)).toArray = #[.pointer (some ⟨nb, 0, none⟩)]) (hr : ∀ ids, r.den (ρ.add ⟨[(x : Int), (y : Int)], [], [], [], []⟩) ids = .tuple #[.int .i64 (x : Int), .int .i64 (y : Int)]) (hhp : m'.hp = m.hp) (hfit : hpFits m.c m.hp.length m.hp = true) (hc : (ρ.add ⟨[(x : Int), (y : Int)], [], [], [], []⟩).cnt = m'.c)
    (h : t.holds ⟨Try.prog, W, M, RR⟩ (ρ.add ⟨[(x : Int), (y : Int)], [], [], [], []⟩) pre (rest.and (prP F nb P)) S) : (Tree.call 20 args m r m' t).holds ⟨Try.prog, W, M, RR⟩ ρ pre (rest.and (prP F nb P)) S := by
  refine node_PI ⟨[(x : Int), (y : Int)], [], [], [], []⟩ (fun _ => #[.pointer (some ⟨nb, 0, none⟩)]) (.tuple #[.int .i64 (x : Int), .int .i64 (y : Int)]) hargs hr hhp hfit hc oneNil (fun ids w hp hf => ?_) h
  obtain ⟨D, a, hP, hok, hnb, hB, hX, Fnb, hsub⟩ := pobj_open hf.x.2
  subst hP
  have e1 : D.queue.length = x := by rw [← h1]; exact (List.length_map _).symm
  have e2 : D.out.length = y := by rw [← h2]; show _ = (mmap Pv.v D.out).length; unfold mmap; rw [List.length_map]
  have := wait_any hB hX hnb (fun k hk => psep_of hf k (hsub k hk)) (by rw [e2, ← h2]; exact hl)
  rw [e1, e2] at this; exact this
theorem node_pgo (ex : Int) (ms : List (Int × Vl)) (P' : Pr Vl) (hown : OwnF W M rest F) (hg : P.goes Vl.k ex = (P', ms)) (hex : I64 ex) (hw0 : 1 ≤ P.window ∧ P.window ≤ 16) (hn0 : 0 ≤ P.next ∧ P.next ≤ 1099511627777) (hl : P.fresh.length + P.queue.length ≤ 10000) (hargs : ∀ ids, (args.map (SV.den ρ ids)).toArray = #[.pointer (some ⟨nb, 0, none⟩), .int .i64 ex])
    (hr : ∀ a' c' ids, r.den (ρ.add ⟨[], [], [], [ms.length, c'], [a']⟩) ids = .slice a' ms.length c') (hhp : m'.hp = m.hp) (hfit : hpFits m.c m.hp.length m.hp = true) (hc : ∀ a' c', (ρ.add ⟨[], [], [], [ms.length, c'], [a']⟩).cnt = m'.c)
    (h : ∀ mp ma mc F', mmap Pv.v mp = ms → mp.length = ms.length → (∀ q ∈ mp, VlFit q.2.v) → OwnF W M ((rest.and (mall mp)).and (mrow ma mc P'.r P'.n mp)) F' → (mp ≠ [] → ma.isSome = true) → t.holds ⟨Try.prog, W, M, RR⟩ (ρ.add ⟨[], [], [], [ms.length, mc], [ma]⟩) pre (((rest.and (mall mp)).and (mrow ma mc P'.r P'.n mp)).and (prP F' nb P')) S) : (Tree.call 14 args m r m' t).holds ⟨Try.prog, W, M, RR⟩ ρ pre (rest.and (prP F nb P)) S := by
  refine node_mut (fun _ => #[.pointer (some ⟨nb, 0, none⟩), .int .i64 ex]) (fun vs h' => ∃ mp ma mc F', mmap Pv.v mp = ms ∧ (∀ q ∈ mp, VlFit q.2.v) ∧ (mp ≠ [] → ma.isSome = true) ∧ (∀ k, F' k → ¬ (mall mp).F k ∧ ¬ (mrow ma mc P'.r P'.n mp).F k) ∧ vs = ⟨[], [], [], [ms.length, mc], [ma]⟩ ∧ h' = ((mall mp).and (mrow ma mc P'.r P'.n mp)).and (prP F' nb P')) hargs (fun ids w hp hf => ?_) hown hhp hfit (fun vs h' q => ?_) ?_
  · refine (go_any ex hf.x.2 (psep_of hf) hex hw0 hn0 hl).mono ?_
    rintro e w' ⟨mp, ma, mc, F', q1, q2, rfl, q3, q4, q5, q6, q7, q8, q9⟩
    rw [hg] at q1 q3 q5 q8
    have q1 : mmap Pv.v mp = ms := q1
    have hlen : mp.length = ms.length := by rw [← q1]; unfold mmap; rw [List.length_map]
    refine ⟨_, _, ⟨mp, ma, mc, F', q1, q2, fun hne => ?_, fun k hk => ⟨fun z => (q7 k z).2.2 hk, fun z => (q8 k z).2.2.1 hk⟩, rfl, rfl⟩, by rw [hr, hlen], ⟨⟨q4, q5⟩, q3⟩, fun k hk => ?_, q9⟩
    · refine row_isS q5 fun z => ?_
      cases mp with
      | nil => exact hne rfl
      | cons y r => simp [mcells, mgC] at z
    · rcases hk with (hk | hk) | hk
      · exact ⟨.inr (q7 k hk).1, (q7 k hk).2.1⟩
      · exact ⟨.inr (q8 k hk).1, (q8 k hk).2.1⟩
      · exact q6 k hk
  · obtain ⟨mp, ma, mc, F', _, _, _, _, rfl, _⟩ := q
    exact ⟨hc _ _, oneNil⟩
  · rintro vs h' ⟨mp, ma, mc, F', q1, q2, q3, q4, rfl, rfl⟩ hd
    have e : rest.and (((mall mp).and (mrow ma mc P'.r P'.n mp)).and (prP F' nb P')) = ((rest.and (mall mp)).and (mrow ma mc P'.r P'.n mp)).and (prP F' nb P') := by ac_rfl
    refine holds_eq e (h mp ma mc F' q1 (by rw [← q1]; unfold mmap; rw [List.length_map]) q2 (fun k hk => ⟨?_, (hd k (.inr hk)).2⟩) q3)
    rintro ((z | z) | z)
    · exact (hd k (.inr hk)).1 z
    · exact (q4 k hk).1 z
    · exact (q4 k hk).2 z
theorem node_pprom (node low : Int) (xs : List (Vo Pv)) (av : List Nat → Option Addr) (cv : Nat) (b : Bool) (hown : OwnF W M rest F) (hb : (P.promised node (vlsOf xs)).2 = b) (hvf : ∀ x ∈ xs, VlFit x.v.v)
    (h0 : proE P.r P.n P.frm low (vlsOf xs) = 0) (h1 : P.phase = 1) (h2 : hasB P.mem node = true) (h3 : ∀ x ∈ xs, P.frm ≤ x.s ∧ x.s ≤ P.frm + 63) (h4 : low < P.frm) (h5 : 1 ≤ P.frm ∧ P.frm ≤ 1099511627776) (h6 : ∀ p ∈ P.best, P.frm ≤ p.1 ∧ p.1 ≤ P.frm + 63) (h7 : P.said.length ≤ 1000 ∧ P.fresh.length ≤ 1000 ∧ P.mem.length ≤ 9) (h8 : (∀ x ∈ P.said, I64 x) ∧ I64 node) (hxl : xs.length ≤ 64)
    (hargs : ∀ ids, (args.map (SV.den ρ ids)).toArray = #[.pointer (some ⟨nb, 0, none⟩), .int .i64 node, proM P.r P.n P.frm low (.slice (av ids) xs.length cv)])
    (hat : ∀ ids w, pre <+: ids → Facts ⟨Try.prog, W, M, RR⟩ m ρ ids (rest.and (prP F nb P)) w → (voX (av ids) xs).X w ∧ ∀ k, (voX (av ids) xs).F k → rest.F k ∨ k ∈ ids)
    (hr : ∀ ids, r.den (ρ.add ⟨[0], [b], [], [], []⟩) ids = .tuple #[.bool b, .int .i64 0]) (hhp : m'.hp = m.hp) (hfit : hpFits m.c m.hp.length m.hp = true) (hc : (ρ.add ⟨[0], [b], [], [], []⟩).cnt = m'.c)
    (h : ∀ F', OwnF W M rest F' → t.holds ⟨Try.prog, W, M, RR⟩ (ρ.add ⟨[0], [b], [], [], []⟩) pre (rest.and (prP F' nb (P.promised node (vlsOf xs)).1)) S) : (Tree.call 13 args m r m' t).holds ⟨Try.prog, W, M, RR⟩ ρ pre (rest.and (prP F nb P)) S :=
  node_pmut ⟨[0], [b], [], [], []⟩ (fun ids => #[.pointer (some ⟨nb, 0, none⟩), .int .i64 node, proM P.r P.n P.frm low (.slice (av ids) xs.length cv)]) hown hargs (fun ids w hp hf => by rw [← hb]; exact promise_any node low cv hf.x.2 (psep_of hf) (hat ids w hp hf).1 (papart_of hown hf (hat ids w hp hf).2) hvf h0 h1 h2 h3 h4 h5 h6 h7 h8 hxl) hr hhp hfit hc oneNil h
end
end Go.Proofs.Ytlgpjjgkdpmidaa
