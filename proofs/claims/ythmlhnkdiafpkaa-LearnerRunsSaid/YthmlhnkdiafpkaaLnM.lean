/- synodlaw15.call. -/
import Derived.Test.YthmlhnkdiafpkaaLnJ
import Derived.Test.YthmlhnkdiafpkaaLnRT
import Derived.Test.YthmlhnkdiafpkaaLnS
namespace Go.Proofs.Ythmlhnkdiafpkaa
open Go.ChangeShapes Go.WideShapes Go.ChangeAt Go.RowKit Go.Syn Go.Eng Go.MapKept
set_option linter.unusedVariables false
set_option linter.unusedSimpArgs false
set_option maxRecDepth 100000
theorem lkup_hd {α : Type} (k : Nat) (x : α) (r : List (Nat × α)) : lkup k ((k, x) :: r) = some x := if_pos rfl
instance : Std.Associative HX.and := ⟨HX.and_assoc⟩
instance : Std.Commutative HX.and := ⟨HX.and_comm⟩
section
variable {C : Cfg} {ρ : Env} {pre : List Nat} {stay : HX} {S : Stack}
/-- A loop that stores -1 as the number of each command of a row. -/
theorem sq_loop {key : Nat} {e0 e1 : Vec} {m mh mb mb' ma : Mem} {bc : BE} {nd : Need} {xa xv : Operand} {ps : List (Nat × SV)} {T : Tree} (a : Option Addr) (n cap : Nat) (xs0 : List Value) (hx0 : xs0.length = n * 8) (hn : n ≤ 2199023255552) (hP : (C.P.info? 3).map (·.size) = some 1)
    (h0 : ∀ ids, e0.den ρ ids = ⟨[0], [], [], [], []⟩) (hb : ∀ k : Int, bc.den (ρ.add ⟨[k], [], [], [], []⟩) = decide (k < (n : Int))) (hnd : ∀ k : Int, nd.den (ρ.add ⟨[k], [], [], [], []⟩) = (a.isSome = true ∧ 0 ≤ k ∧ k < (n : Int)))
    (hxa : ∀ (k : Nat) ids, envOf (ρ.add ⟨[(k : Int)], [], [], [], []⟩) ids ps xa = .pointer (some (((a.getD ⟨0, 0, none⟩).add (k * 8)).add 1))) (hxv : ∀ (k : Nat) ids, envOf (ρ.add ⟨[(k : Int)], [], [], [], []⟩) ids ps xv = .int .i64 (-1)) (h1 : ∀ (k : Int) ids, e1.den (ρ.add ⟨[k], [], [], [], []⟩) ids = ⟨[IntKind.i64.wrap (k + 1)], [], [], [], []⟩)
    (hdis : ∀ k, cap ≠ 0 → abk a = some k → ¬ stay.F k ∧ (C.W.heap.size ≤ k ∨ C.M k)) (hhp : mb'.hp = mb.hp) (hfit : hpFits mb.c mb.hp.length mb.hp = true) (hc : ∀ k : Int, (ρ.add ⟨[k], [], [], [], []⟩).cnt = mb'.c)
    (hT : ∀ (k : Int) xs J, T.holds C (ρ.add ⟨[k], [], [], [], []⟩) pre (stay.and (HX.rw 8 57 a n cap xs)) ((key, J) :: S)) :
    (Tree.loop key e0 m mh (.br bc (.need nd (.gen (.store 3 xa xv) 0 ps mb none mb' (.again key e1 ma))) T)).holds C ρ pre (stay.and (HX.rw 8 57 a n cap xs0)) S := by
  refine ⟨fun vs hx m => (0 < n → a.isSome = true) ∧ ∃ (k : Nat) (xs : List Value), m = n - k ∧ k ≤ n ∧ xs.length = n * 8 ∧ vs = ⟨[(k : Int)], [], [], [], []⟩ ∧ hx = stay.and (HX.rw 8 57 a n cap xs), fun ids w hp hf => ⟨_, n, ⟨hf.x, hf.sep⟩, fun hpos => ?_, 0, xs0, rfl, Nat.zero_le _, hx0, h0 ids, rfl⟩, ?_⟩
  · refine row_isS (hf.x.2) fun q => ?_
    rw [q] at hx0; simp at hx0; omega
  rintro vs hx' cnt hcnt ⟨hs, k, xs, rfl, hk, hxs, rfl, rfl⟩
  refine br_D (p := (k : Int) < (n : Int)) (hb _) (fun hlt => ?_) (fun hlt => hT _ _ _)
  have hlt : k < n := by omega
  have hwk : IntKind.i64.wrap ((k : Int) + 1) = ((k + 1 : Nat) : Int) := by rw [wrap_i64 (by omega)]; omega
  refine need_k (a.isSome = true ∧ 0 ≤ (k : Int) ∧ (k : Int) < (n : Int)) (hnd _) ⟨hs (by omega), by omega, by omega⟩ ?_
  refine node_stores (sz := 8) a n cap xs [.int .i64 (-1)] k 1 (.int .i64 (-1)) hP (hxa k) (hxv k) rfl (by simp [Value.oneCell']) (by simp; omega) (by simp) (fun j h1 h2 => (hdis j h1 h2).1) (fun j h1 h2 => (hdis j h1 h2).2) hhp hfit (hc _) ?_
  refine again_V ⟨[IntKind.i64.wrap ((k : Int) + 1)], [], [], [], []⟩ (lkup_hd _ _ _) (h1 _) _ (fun w2 ids hf => ⟨hf.x, hf.sep⟩) ⟨n - (k + 1), by omega, hs, k + 1, _, rfl, by omega, ?_, by rw [hwk], rfl⟩
  rw [spl_len (by simp; omega)]; exact hxs
theorem Facts.initM {P : Program} {w : World} {M : Nat → Prop} {R : Ending → World → Prop} {ρ : Env} {c : Cnt} {hx : HX} (hc : ρ.cnt = c) (h1 : ∀ v, v ∈ ρ.v → v.oneCell' = true) (hX : hx.X w) (hsep : ∀ k, hx.F k → k < w.heap.size) : Facts ⟨P, w, M, R⟩ ⟨[], c⟩ ρ [] hx w :=
  ⟨rfl, by simp, (fun n t2 cs2 hn => by simp at hn), (fun id hid => by cases hid), Chg.refl _ _, hX, (fun k hk => ⟨hsep k hk, by simp⟩), ⟨hc, h1⟩⟩
end
section
variable {W : World} {M : Nat → Prop} {RR : Ending → World → Prop} {ρ : Env} {pre : List Nat} {rest hx : HX} {S : Stack} {m m' : Mem} {args : List SV} {r : SV} {t : Tree} {F : Nat → Prop} {nb : Nat} {L : Ln}
/-- A call that answers a learner of the reference, beside a learner. -/
theorem node_ral {f : Nat} {V : Value → Value} {A : RA} {Q : RA → Prop} (AS : List Nat → Array Value) (vs : RA → Vals) (hown : OwnF W M rest F) (hargs : ∀ ids, (args.map (SV.den ρ ids)).toArray = AS ids) (hA : ∀ k, A.hx.F k → rest.F k) (hcall : ∀ ids w, pre <+: ids → Facts ⟨Try.prog, W, M, RR⟩ m ρ ids (rest.and (lnX F nb L)) w → Calls Try.prog f (AS ids) w (RaRet w A V Q))
    (hr : ∀ A', Q A' → ∀ ids, r.den (ρ.add (vs A')) ids = V A'.val) (hhp : m'.hp = m.hp) (hfit : hpFits m.c m.hp.length m.hp = true) (hc : ∀ A', Q A' → (ρ.add (vs A')).cnt = m'.c) (h1 : ∀ A', Q A' → ∀ v, v ∈ (vs A').v → v.oneCell' = true)
    (h : ∀ A', Q A' → (∀ k, A'.hx.F k → A.hx.F k ∨ (W.heap.size ≤ k ∧ ¬ rest.F k)) → OwnF W M (rest.and A'.hx) F → t.holds ⟨Try.prog, W, M, RR⟩ (ρ.add (vs A')) pre ((rest.and A'.hx).and (lnX F nb L)) S) : (Tree.call f args m r m' t).holds ⟨Try.prog, W, M, RR⟩ ρ pre (rest.and (lnX F nb L)) S := by
  refine node_ra (V := V) (A := A) (Q := Q) AS vs hargs (fun k hk => .inl (hA k hk)) hcall hr hhp hfit hc h1 fun A' hQ hF => ?_
  refine holds_eq (HX.and_right_comm _ _ _) ?_
  exact h A' hQ (fun k hk => (hF k hk).imp id fun q => ⟨q.1, fun z => q.2 (.inl z)⟩) fun k hk => ⟨fun q => q.elim (hown k hk).1 fun q => (hF k q).elim (fun z => (hown k hk).1 (hA k z)) fun z => z.2 (.inr hk), (hown k hk).2⟩
/-- A call that answers a value in new rows, beside a learner. -/
theorem node_vrowl {f : Nat} {V : Value → Value} {v : Vl} (AS : List Nat → Array Value) (vs : Option Addr → Nat → Option Addr → Nat → Vals) (hown : OwnF W M rest F) (hargs : ∀ ids, (args.map (SV.den ρ ids)).toArray = AS ids) (hcall : ∀ ids w, pre <+: ids → Facts ⟨Try.prog, W, M, RR⟩ m ρ ids (rest.and (lnX F nb L)) w → Calls Try.prog f (AS ids) w (VlRowV w V v))
    (hr : ∀ a1 c1 a2 c2 ids, r.den (ρ.add (vs a1 c1 a2 c2)) ids = V (vlV v a1 c1 a2 c2)) (hhp : m'.hp = m.hp) (hfit : hpFits m.c m.hp.length m.hp = true) (hc : ∀ a1 c1 a2 c2, (ρ.add (vs a1 c1 a2 c2)).cnt = m'.c) (h1 : ∀ a1 c1 a2 c2 v, v ∈ (vs a1 c1 a2 c2).v → v.oneCell' = true)
    (h : ∀ a1 c1 a2 c2, (∀ k, (crow a1 v.cs.length c1 v.cs).F k → W.heap.size ≤ k ∧ ¬ rest.F k) → (∀ k, (nrow a2 v.ns.length c2 v.ns).F k → W.heap.size ≤ k ∧ ¬ rest.F k ∧ ¬ (crow a1 v.cs.length c1 v.cs).F k) → OwnF W M (rest.and ((crow a1 v.cs.length c1 v.cs).and (nrow a2 v.ns.length c2 v.ns))) F → t.holds ⟨Try.prog, W, M, RR⟩ (ρ.add (vs a1 c1 a2 c2)) pre ((rest.and ((crow a1 v.cs.length c1 v.cs).and (nrow a2 v.ns.length c2 v.ns))).and (lnX F nb L)) S) : (Tree.call f args m r m' t).holds ⟨Try.prog, W, M, RR⟩ ρ pre (rest.and (lnX F nb L)) S := by
  refine node_vrow (V := V) (v := v) AS vs hargs hcall hr hhp hfit hc h1 fun a1 c1 a2 c2 f1 f2 => ?_
  refine holds_eq (HX.and_right_comm _ _ _) ?_
  exact h a1 c1 a2 c2 (fun k hk => ⟨(f1 k hk).1, fun q => (f1 k hk).2 (.inl q)⟩) (fun k hk => ⟨(f2 k hk).1, fun q => (f2 k hk).2.1 (.inl q), (f2 k hk).2.2⟩) fun k hk => ⟨fun q => q.elim (hown k hk).1 fun q => q.elim (fun q => (f1 k q).2 (.inr hk)) fun q => (f2 k q).2.1 (.inr hk), (hown k hk).2⟩
end
/-- What call does. -/
def CallR (w : World) (F : Nat → Prop) (nb : Nat) (A : RA) (i : Nat) (e : Ending) (w' : World) : Prop := ∃ L' A' F', e = .returned (.tuple #[A'.val, .bool true]) ∧ RunS (i + 1) L' A' ∧ (lnX F' nb L').X w' ∧ A'.hx.X w' ∧ (∀ k, F' k → (F k ∨ w.heap.size ≤ k) ∧ k < w'.heap.size) ∧ (∀ k, A'.hx.F k → (A.hx.F k ∨ w.heap.size ≤ k) ∧ ¬ F' k) ∧ Chg F w w'
section
variable {w : World} {F F' : Nat → Prop} {nb i : Nat} {L L' : Ln} {A A' : RA}
theorem call_done {m : Mem} {ρ : Env} {pre : List Nat} {hx : HX} {S : Stack} {sv : SV} (hS : RunS (i + 1) L' A') (hX : ∀ w, hx.X w → (lnX F' nb L').X w ∧ A'.hx.X w) (hF : ∀ k, F' k → hx.F k ∧ (w.heap.size ≤ k ∨ F k)) (hA : ∀ k, A'.hx.F k → (A.hx.F k ∨ w.heap.size ≤ k) ∧ ¬ F' k) (hsv : ∀ ids, sv.den ρ ids = .tuple #[A'.val, .bool true]) : (Tree.done sv m).holds ⟨Try.prog, w, F, CallR w F nb A i⟩ ρ pre hx S := fun ids w2 hp hf =>
  ⟨L', A', F', by rw [hsv], hS, (hX _ hf.x).1, (hX _ hf.x).2, fun k hk => ⟨(hF k hk).2.symm, (hf.sep k (hF k hk).1).1⟩, hA, hf.chg⟩
theorem miss_in {de : List (Int × Vl)} {top most : Int} : ∀ (m : Nat) (s : Int) (out : List Int), (∀ x ∈ missF de top most m s out, x ∈ out ∨ (s ≤ x ∧ x ≤ top)) ∧ (missF de top most m s out).length ≤ out.length + m
  | 0, s, out => ⟨fun x hx => .inl hx, Nat.le_refl _⟩
  | m + 1, s, out => by
    rw [missF_step]
    split
    · rename_i h
      obtain ⟨h1, h2⟩ := miss_in (de := de) (top := top) (most := most) m (s + 1) (if (mlk de s).isSome = true then out else out ++ [s])
      refine ⟨fun x hx => ?_, ?_⟩
      · rcases h1 x hx with q | q
        · split at q
          · exact .inl q
          · rcases List.mem_append.1 q with q | q
            · exact .inl q
            · rw [List.mem_singleton.1 q]; exact .inr ⟨by omega, h.1⟩
        · exact .inr ⟨by omega, q.2⟩
      · split at h2
        · rename_i q; rw [if_pos q]; omega
        · rename_i q; rw [if_neg q]; rw [List.length_append] at h2; simp only [List.length_cons, List.length_nil] at h2; omega
    · exact ⟨fun x hx => .inl hx, by omega⟩
set_option maxHeartbeats 4000000 in
theorem call_any (o : OpL) (hS : RunS i L A) (hi : i ≤ 200) (HA : A.hx.X w) (HL : (lnX F nb L).X w) (hF : ∀ k, F k → k < w.heap.size) (hd : ∀ k, F k → ¬ A.hx.F k ∧ ¬ (vlX o.p.v o.p.a1 o.p.a2).F k) (ho : OpOk w o) : Calls Try.prog 25 #[.pointer (some ⟨nb, 0, none⟩), A.val, .agg o.cells.toArray] w (CallR w F nb A i) := by
  have hv := ho.at_
  have i1 := ho.slot
  have i2 := ho.m
  have ok := hS.ok (by omega)
  have hinv := hS.inv
  have hkl := hS.kl
  obtain ⟨B, eB⟩ : ∃ x, x = A.hx.and (vlX o.p.v o.p.a1 o.p.a2) := ⟨_, rfl⟩
  have BA : ∀ {w}, B.X w → A.hx.X w := fun h => by rw [eB] at h; exact h.1
  have BV : ∀ {w}, B.X w → VlAt w o.p.v o.p.a1 o.p.a2 := fun h => by rw [eB] at h; exact hv.fit.at_ h.2
  have BFA : ∀ k, A.hx.F k → B.F k := fun k h => by rw [eB]; exact .inl h
  have BFV : ∀ k, (vlX o.p.v o.p.a1 o.p.a2).F k → B.F k := fun k h => by rw [eB]; exact .inr h
  have Bs : ∀ k, B.F k → k < w.heap.size := fun k h => by rw [eB] at h; exact h.elim (RA.sep HA k) (vlX_sep hv.X k)
  have hown : OwnF w F B F := fun k hk => ⟨fun q => by rw [eB] at q; exact q.elim (hd k hk).1 (hd k hk).2, .inr hk⟩
  refine calls_at (tab_ok _) Try.func25 rfl tLCall (ρ := ⟨[A.next, A.top, o.k, o.node, o.slot, o.r, o.n, o.p.v.k, o.m], [], [.pointer (some ⟨nb, 0, none⟩)], [A.mem.length, A.cm, A.ks.length, A.ck, A.ds.length, A.cd, o.p.v.cs.length, o.p.c1, o.p.v.ns.length, o.p.c2], [A.am, A.ak, A.ad, o.p.a1, o.p.a2]⟩) (ids := []) (hx := B.and (lnX F nb L)) rfl (Facts.initM (M := F) rfl (fun v hv => by simp only [List.mem_singleton] at hv; subst hv; rfl) ⟨by rw [eB]; exact ⟨HA, hv.X⟩, HL⟩ (fun k hk => hk.elim (Bs k) (hF k))) ?_
  -- an answer that leaves the reference's learner as it is
  have same : ∀ {m : Mem} {ρ : Env} {pre : List Nat} {hx : HX} {S : Stack} {sv : SV} {L' : Ln} {F' : Nat → Prop}, RunS (i + 1) L' A → (∀ w, hx.X w → (lnX F' nb L').X w ∧ B.X w) → (∀ k, F' k → hx.F k ∧ (w.heap.size ≤ k ∨ F k) ∧ ¬ B.F k) → (∀ ids, sv.den ρ ids = .tuple #[A.val, .bool true]) → (Tree.done sv m).holds ⟨Try.prog, w, F, CallR w F nb A i⟩ ρ pre hx S := fun h1 h2 h3 h4 =>
    call_done h1 (fun w h => ⟨(h2 w h).1, BA (h2 w h).2⟩) (fun k hk => ⟨(h3 k hk).1, (h3 k hk).2.1⟩) (fun k hk => ⟨.inl hk, fun q => (h3 k q).2.2 (BFA k hk)⟩) h4
  refine br_B (o.k == 0) (by kernel_rfl) (fun k0 => ?_) (fun k0 => ?_)
  · -- Voted
    refine node_vrowl (V := id) (v := o.p.v) (fun _ => #[o.p.val]) (fun b1 d1 b2 d2 => ⟨[o.p.v.k], [], [], [o.p.v.cs.length, d1, o.p.v.ns.length, d2], [b1, b2]⟩) hown (by intros; kernel_rfl) (fun ids w2 hp hf => cpvr_any _ _ _ _ _ w2 (BV hf.x.1)) (by intros; kernel_rfl) (by kernel_rfl) (by kernel_rfl) (by intros; kernel_rfl) (fun _ _ _ _ => oneNil) ?_
    intro b1 d1 b2 d2 f1 f2 hown1
    obtain ⟨B1, eB1⟩ : ∃ x, x = B.and ((crow b1 o.p.v.cs.length d1 o.p.v.cs).and (nrow b2 o.p.v.ns.length d2 o.p.v.ns)) := ⟨_, rfl⟩
    rw [← eB1] at hown1 ⊢
    have B1x : ∀ {w}, B1.X w → B.X w ∧ (crow b1 o.p.v.cs.length d1 o.p.v.cs).X w ∧ (nrow b2 o.p.v.ns.length d2 o.p.v.ns).X w := fun h => by rw [eB1] at h; exact h
    refine node_ral (V := fun x => .tuple #[x, .bool (A.votedB o.node o.slot o.r o.n o.p.v)]) (A := A) (Q := RVQ A o.node o.slot o.r o.n o.p.v) (fun _ => #[A.val, .int .i64 o.node, .agg #[.int .i64 o.slot, .int .i64 o.r, .int .i64 o.n, .int .i64 o.p.v.k, .slice o.p.a1 o.p.v.cs.length o.p.c1, .slice o.p.a2 o.p.v.ns.length o.p.c2]]) (fun A' => ⟨[A'.next, A'.top], [A.votedB o.node o.slot o.r o.n o.p.v], [], [A'.mem.length, A'.cm, A'.ks.length, A'.ck, A'.ds.length, A'.cd], [A'.am, A'.ak, A'.ad]⟩) hown1 (by intros; kernel_rfl) (fun k hk => by rw [eB1]; exact .inl (BFA k hk)) (fun ids w2 hp hf => rvoted_any _ _ _ _ _ _ _ _ _ w2 ok (by omega) hS.kn (BA (B1x hf.x.1).1) (BV (B1x hf.x.1).1) i1) (fun A' _ => (by intros; kernel_rfl)) (by kernel_rfl) (by kernel_rfl) (fun A' _ => by kernel_rfl) (fun _ _ => oneNil) ?_
    intro A' hQ hFA hown2
    obtain ⟨hans, hS'⟩ := hS.voted hv.fit hQ
    refine node_voted o.node o.slot o.r o.n o.p.v (fun _ => b1) d1 (fun _ => b2) d2 hown2 hinv i1 (A.votedB o.node o.slot o.r o.n o.p.v) hans (by intros; kernel_rfl) (fun ids w2 hp hf => ⟨rows_at hv.fit (B1x hf.x.1.1).2.1 (B1x hf.x.1.1).2.2, fun k hk => .inl (.inl (by rw [eB1]; exact .inr (rows_F (B1x hf.x.1.1).2.1 (B1x hf.x.1.1).2.2 k hk)))⟩) (by intros; kernel_rfl) (by kernel_rfl) (by kernel_rfl) (by kernel_rfl) ?_
    intro F2 hown3
    obtain ⟨L2, eL2⟩ : ∃ x, x = (L.voted o.node o.slot o.r o.n o.p.v).1 := ⟨_, rfl⟩
    rw [← eL2] at hS' ⊢
    have e1 : ((B1.and A'.hx).and (lnX F2 nb L2)) = (((B.and (nrow b2 o.p.v.ns.length d2 o.p.v.ns)).and A'.hx).and (lnX F2 nb L2)).and (crow b1 o.p.v.cs.length d1 o.p.v.cs) := by
      rw [eB1]; ac_rfl
    refine holds_eq e1 ?_
    refine sq_loop b1 o.p.v.cs.length d1 (ccells o.p.v.cs) (ccells_len _) hv.l1 (by kernel_rfl) (by intros; kernel_rfl) (by intros; kernel_rfl) (by intros; kernel_rfl) (by intros; kernel_rfl) (by intros; kernel_rfl) (by intros; kernel_rfl) (fun k h1 h2 => ⟨?_, .inl (f1 k ⟨h1, h2⟩).1⟩) (by kernel_rfl) (by kernel_rfl) (by intros; kernel_rfl) ?_
    · have hc : (crow b1 o.p.v.cs.length d1 o.p.v.cs).F k := ⟨h1, h2⟩
      rintro (((q | q) | q) | q)
      · exact (f1 k hc).2 q
      · exact (f2 k q).2.2 hc
      · exact (hFA k q).elim (fun z => (f1 k hc).2 (BFA k z)) fun z => z.2 (by rw [eB1]; exact .inr (.inl hc))
      · exact (hown3 k q).1 (.inl (by rw [eB1]; exact .inr (.inl hc)))
    intro k xs J
    refine call_done hS' (fun w h => ⟨h.1.2, h.1.1.2⟩) (fun k hk => ⟨.inl (.inr hk), (hown3 k hk).2⟩) (fun k hk => ⟨(hFA k hk).imp id (·.1), fun q => (hown3 k q).1 (.inr hk)⟩) (fun ids => ?_)
    refine Eq.trans (b := Value.tuple #[A'.val, .bool (A.votedB o.node o.slot o.r o.n o.p.v == A.votedB o.node o.slot o.r o.n o.p.v)]) (by kernel_rfl) ?_
    rw [beq_self_eq_true]
  refine br_B (o.k == 1) (by kernel_rfl) (fun k1 => ?_) (fun k1 => ?_)
  · -- Told
    have hsl : o.slot ≤ 1099511627776 ∨ A.openB o.slot o.p.v = false := by
      by_cases h : A.openB o.slot o.p.v = true
      · rw [hS.rel.openB] at h; exact .inl (openB_iff.1 h).1.2.2.1
      · exact .inr (by simpa using h)
    refine node_vrowl (V := id) (v := o.p.v) (fun _ => #[o.p.val]) (fun b1 d1 b2 d2 => ⟨[o.p.v.k], [], [], [o.p.v.cs.length, d1, o.p.v.ns.length, d2], [b1, b2]⟩) hown (by intros; kernel_rfl) (fun ids w2 hp hf => cpvr_any _ _ _ _ _ w2 (BV hf.x.1)) (by intros; kernel_rfl) (by kernel_rfl) (by kernel_rfl) (by intros; kernel_rfl) (fun _ _ _ _ => oneNil) ?_
    intro b1 d1 b2 d2 f1 f2 hown1
    obtain ⟨B1, eB1⟩ : ∃ x, x = B.and ((crow b1 o.p.v.cs.length d1 o.p.v.cs).and (nrow b2 o.p.v.ns.length d2 o.p.v.ns)) := ⟨_, rfl⟩
    rw [← eB1] at hown1 ⊢
    have B1x : ∀ {w}, B1.X w → B.X w ∧ (crow b1 o.p.v.cs.length d1 o.p.v.cs).X w ∧ (nrow b2 o.p.v.ns.length d2 o.p.v.ns).X w := fun h => by rw [eB1] at h; exact h
    refine node_ral (V := fun x => .tuple #[x, .bool (A.openB o.slot o.p.v)]) (A := A) (Q := ToldQ A o.slot o.p.v) (fun _ => #[A.val, .int .i64 o.slot, o.p.val]) (fun A' => ⟨[A'.next, A'.top], [A.openB o.slot o.p.v], [], [A'.mem.length, A'.cm, A'.ks.length, A'.ck, A'.ds.length, A'.cd], [A'.am, A'.ak, A'.ad]⟩) hown1 (by intros; kernel_rfl) (fun k hk => by rw [eB1]; exact .inl (BFA k hk)) (fun ids w2 hp hf => rtold_any _ _ _ _ _ _ w2 ok (BA (B1x hf.x.1).1) (BV (B1x hf.x.1).1) hsl) (fun A' _ => (by intros; kernel_rfl)) (by kernel_rfl) (by kernel_rfl) (fun A' _ => by kernel_rfl) (fun _ _ => oneNil) ?_
    intro A' hQ hFA hown2
    have hS' := hS.told hv.fit hQ
    have hans : (L.told o.slot o.p.v).2 = A.openB o.slot o.p.v := told_2.trans hS.rel.openB.symm
    refine node_told o.slot o.p.v (fun _ => b1) d1 (fun _ => b2) d2 hown2 hinv i1 (A.openB o.slot o.p.v) hans (by intros; kernel_rfl) (fun ids w2 hp hf => ⟨rows_at hv.fit (B1x hf.x.1.1).2.1 (B1x hf.x.1.1).2.2, fun k hk => .inl (.inl (by rw [eB1]; exact .inr (rows_F (B1x hf.x.1.1).2.1 (B1x hf.x.1.1).2.2 k hk)))⟩) (by intros; kernel_rfl) (by kernel_rfl) (by kernel_rfl) (by kernel_rfl) ?_
    intro F2 hown3
    obtain ⟨L2, eL2⟩ : ∃ x, x = (L.told o.slot o.p.v).1 := ⟨_, rfl⟩
    rw [← eL2] at hS' ⊢
    have e1 : ((B1.and A'.hx).and (lnX F2 nb L2)) = (((B.and (nrow b2 o.p.v.ns.length d2 o.p.v.ns)).and A'.hx).and (lnX F2 nb L2)).and (crow b1 o.p.v.cs.length d1 o.p.v.cs) := by
      rw [eB1]; ac_rfl
    refine holds_eq e1 ?_
    refine sq_loop b1 o.p.v.cs.length d1 (ccells o.p.v.cs) (ccells_len _) hv.l1 (by kernel_rfl) (by intros; kernel_rfl) (by intros; kernel_rfl) (by intros; kernel_rfl) (by intros; kernel_rfl) (by intros; kernel_rfl) (by intros; kernel_rfl) (fun k h1 h2 => ⟨?_, .inl (f1 k ⟨h1, h2⟩).1⟩) (by kernel_rfl) (by kernel_rfl) (by intros; kernel_rfl) ?_
    · have hc : (crow b1 o.p.v.cs.length d1 o.p.v.cs).F k := ⟨h1, h2⟩
      rintro (((q | q) | q) | q)
      · exact (f1 k hc).2 q
      · exact (f2 k q).2.2 hc
      · exact (hFA k q).elim (fun z => (f1 k hc).2 (BFA k z)) fun z => z.2 (by rw [eB1]; exact .inr (.inl hc))
      · exact (hown3 k q).1 (.inl (by rw [eB1]; exact .inr (.inl hc)))
    intro k xs J
    refine call_done hS' (fun w h => ⟨h.1.2, h.1.1.2⟩) (fun k hk => ⟨.inl (.inr hk), (hown3 k hk).2⟩) (fun k hk => ⟨(hFA k hk).imp id (·.1), fun q => (hown3 k q).1 (.inr hk)⟩) (fun ids => ?_)
    refine Eq.trans (b := Value.tuple #[A'.val, .bool (A.openB o.slot o.p.v == A.openB o.slot o.p.v)]) (by kernel_rfl) ?_
    rw [beq_self_eq_true]
  have kn : ∀ s, A.known s = L.known s := hS.rel.known
  have nx := hS.rel.next
  have n1 := hinv.next1
  have n2 := hinv.next2
  refine br_B (o.k == 2) (by kernel_rfl) (fun k2 => ?_) (fun k2 => ?_)
  · -- Pass
    refine node_lval (V := fun x => .tuple #[x, .bool (A.known A.next).2]) (v := (A.known A.next).1) #[A.val, .int .i64 A.next] hown (fun b1 d1 b2 d2 => ⟨[(A.known A.next).1.k], [(A.known A.next).2], [], [(A.known A.next).1.cs.length, d1, (A.known A.next).1.ns.length, d2], [b1, b2]⟩) (by intros; kernel_rfl) (fun ids w2 hp hf => rknown_any A.next w2 ok (BA hf.x.1)) (by intros; kernel_rfl) (by kernel_rfl) (by kernel_rfl) (by intros; kernel_rfl) (fun _ _ _ _ => oneNil) ?_
    intro b1 d1 b2 d2 f1 hown1
    refine br_B ((A.known A.next).2) (by kernel_rfl) (fun h => ?_) (fun h => ?_)
    · have h2 : (L.known L.next).2 = true := by rw [← kn, ← nx]; exact h
      obtain ⟨p1, p2⟩ := hS.passT h2
      refine node_pass hown1 hinv true p1 (by intros; kernel_rfl) (by intros; kernel_rfl) (by kernel_rfl) (by kernel_rfl) (by kernel_rfl) ?_
      intro F2 hown2
      refine call_done p2 (fun w h => ⟨h.2, BA h.1.1⟩) (fun k hk => ⟨.inr hk, (hown2 k hk).2⟩) (fun k hk => ⟨.inl hk, fun q => (hown2 k q).1 (.inl (BFA k hk))⟩) (fun ids => ?_)
      have hw : IntKind.i64.wrap (A.next + 1) = L.next + 1 := by rw [nx]; exact wrap_i64 (by omega)
      exact Eq.trans (b := Value.tuple #[.agg #[.slice A.am A.mem.length A.cm, .int .i64 (IntKind.i64.wrap (A.next + 1)), .int .i64 A.top, .slice A.ak A.ks.length A.ck, .slice A.ad A.ds.length A.cd], .bool true]) (by kernel_rfl) (by rw [hw]; rfl)
    · have h2 : (L.known L.next).2 = false := by rw [← kn, ← nx]; exact h
      have hp := pass_no h2
      refine node_pass hown1 hinv false (by rw [hp]) (by intros; kernel_rfl) (by intros; kernel_rfl) (by kernel_rfl) (by kernel_rfl) (by kernel_rfl) ?_
      intro F2 hown2
      rw [hp]
      exact same hS.more (fun w h => ⟨h.2, h.1.1⟩) (fun k hk => ⟨.inr hk, (hown2 k hk).2, fun q => (hown2 k hk).1 (.inl q)⟩) (by intros; kernel_rfl)
  refine br_B (o.k == 3) (by kernel_rfl) (fun k3 => ?_) (fun k3 => ?_)
  · -- Known
    refine node_lval (V := fun x => .tuple #[x, .bool (A.known o.m).2]) (v := (A.known o.m).1) #[A.val, .int .i64 o.m] hown (fun b1 d1 b2 d2 => ⟨[(A.known o.m).1.k], [(A.known o.m).2], [], [(A.known o.m).1.cs.length, d1, (A.known o.m).1.ns.length, d2], [b1, b2]⟩) (by intros; kernel_rfl) (fun ids w2 hp hf => rknown_any o.m w2 ok (BA hf.x.1)) (by intros; kernel_rfl) (by kernel_rfl) (by kernel_rfl) (by intros; kernel_rfl) (fun _ _ _ _ => oneNil) ?_
    intro b1 d1 b2 d2 f1 hown1
    obtain ⟨u, q, eu⟩ : ∃ u q, A.known o.m = (u, q) := ⟨_, _, rfl⟩
    have eL : L.known o.m = (u, q) := by rw [← kn]; exact eu
    rw [eu] at f1 hown1 ⊢
    have uf : VlFit u := by
      unfold RA.known at eu
      split at eu
      · rename_i d hd; injection eu with q1 q2; rw [← q1]; exact ok.d d (List.mem_of_find?_eq_some hd)
      · injection eu with q1 q2; rw [← q1]; exact vz_fit
    refine node_vrowl (V := fun x => .tuple #[x, .bool q]) (v := u) (fun _ => #[.pointer (some ⟨nb, 0, none⟩), .int .i64 o.m]) (fun e1 g1 e2 g2 => ⟨[u.k], [q], [], [u.cs.length, g1, u.ns.length, g2], [e1, e2]⟩) hown1 (by intros; kernel_rfl) (fun ids w2 hp hf => ?_) (by intros; kernel_rfl) (by kernel_rfl) (by kernel_rfl) (by intros; kernel_rfl) (fun _ _ _ _ => oneNil) ?_
    · obtain ⟨D, hok, hnb, hB, hX, Fnb, hsub⟩ := obj_open hf.x.2
      have := known_row (slot := o.m) hB hX hok hnb (fun k hk => sep_of hf k (hsub k hk))
      rw [eL] at this; exact this
    intro e1 g1 e2 g2 f2 f3 hown2
    obtain ⟨R, eR⟩ : ∃ R, R = B.and (vlX u b1 b2) := ⟨_, rfl⟩
    rw [← eR] at f2 f3 hown2 ⊢
    refine br_T (q == q) (by kernel_rfl) (beq_self_eq_true q) ?_
    refine node_PI ⟨[], [true], [], [], []⟩ (fun _ => #[vlV u e1 g1 e2 g2, vlV u b1 d1 b2 d2]) (.bool true) (by intros; kernel_rfl) (by intros; kernel_rfl) (by kernel_rfl) (by kernel_rfl) (by kernel_rfl) oneNil (fun ids w2 hp hf => ?_) ?_
    · have hR := hf.x.1.1
      rw [eR] at hR
      have := samev_any u e1 g1 e2 g2 u b1 d1 b2 d2 w2 (rows_at uf hf.x.1.2.1 hf.x.1.2.2) (uf.at_ hR.2)
      rw [vlSame_t rfl] at this
      exact this
    have e1' : ((R.and ((crow e1 u.cs.length g1 u.cs).and (nrow e2 u.ns.length g2 u.ns))).and (lnX F nb L)) = ((R.and (nrow e2 u.ns.length g2 u.ns)).and (lnX F nb L)).and (crow e1 u.cs.length g1 u.cs) := by ac_rfl
    refine holds_eq e1' ?_
    refine sq_loop e1 u.cs.length g1 (ccells u.cs) (ccells_len _) uf.l1 (by kernel_rfl) (by intros; kernel_rfl) (by intros; kernel_rfl) (by intros; kernel_rfl) (by intros; kernel_rfl) (by intros; kernel_rfl) (by intros; kernel_rfl) (fun k h1 h2 => ⟨?_, .inl (f2 k ⟨h1, h2⟩).1⟩) (by kernel_rfl) (by kernel_rfl) (by intros; kernel_rfl) ?_
    · have hc : (crow e1 u.cs.length g1 u.cs).F k := ⟨h1, h2⟩
      rintro ((q | q) | q)
      · exact (f2 k hc).2 q
      · exact (f3 k q).2.2 hc
      · exact (hown2 k q).1 (.inr (.inl hc))
    intro k xs J
    exact same hS.more (fun w h => ⟨h.1.2, by have := h.1.1.1; rw [eR] at this; exact this.1⟩) (fun k hk => ⟨.inl (.inr hk), (hown2 k hk).2, fun q => (hown2 k hk).1 (.inl (by rw [eR]; exact .inl q))⟩) (by intros; kernel_rfl)
  refine br_B (o.k == 4) (by kernel_rfl) (fun k4 => ?_) (fun k4 => ?_)
  · -- Missing
    obtain ⟨ms, ems⟩ : ∃ ms, L.missing o.m = ms := ⟨_, rfl⟩
    have emA : A.missing o.m = ms := (hS.rel.missing o.m).trans ems
    have t2 := hinv.top2
    have hms : (∀ x ∈ ms, I64 x) ∧ ms.length ≤ 1099511627777 := by
      obtain ⟨h1, h2⟩ := miss_in (de := L.de) (top := L.top) (most := o.m) (L.top - L.next + 1).toNat L.next []
      rw [show missF L.de L.top o.m (L.top - L.next + 1).toNat L.next [] = ms from ems] at h1 h2
      refine ⟨fun x hx => ?_, by simp only [List.length_nil] at h2; omega⟩
      rcases h1 x hx with q | q
      · cases q
      · unfold I64; omega
    refine node_lmiss o.m hown hinv ms ems (by intros; kernel_rfl) (by intros; kernel_rfl) (by kernel_rfl) (by kernel_rfl) (by intros; kernel_rfl) ?_
    intro b1 d1 hown1
    refine node_rwn (V := id) (sz := 1) (e := 3) (n := ms.length) (xs := ms.map (Value.int .i64)) (fun _ => #[A.val, .int .i64 o.m]) (fun a' c' => ⟨[], [], [], [ms.length, c'], [a']⟩) (by intros; kernel_rfl) (fun ids w2 hp hf => ?_) (by intros; kernel_rfl) (by kernel_rfl) (by kernel_rfl) (by intros; kernel_rfl) (fun _ _ => oneNil) ?_
    · have := rmissing_any o.m w2 ok (BA hf.x.1.1)
      rw [emA] at this; exact this
    intro b2 d2 _ hfr
    refine node_PI ⟨[], [true], [], [], []⟩ (fun _ => #[.slice b1 ms.length d1, .slice b2 ms.length d2]) (.bool true) (by intros; kernel_rfl) (by intros; kernel_rfl) (by kernel_rfl) (by kernel_rfl) (by kernel_rfl) oneNil (fun ids w2 hp hf => ?_) ?_
    · have := intsB_any b1 d1 ms b2 d2 ms w2 (Ints.of_cells (by omega) hms.1 (rw_cells hf.x.1.1.2)) (Ints.of_cells (by omega) hms.1 (rw_cells hf.x.2)) (by omega)
      rw [decide_eq_true rfl] at this; exact this
    exact same hS.more (fun w h => ⟨h.1.2, h.1.1.1⟩) (fun k hk => ⟨.inl (.inr hk), (hown1 k hk).2, fun q => (hown1 k hk).1 (.inl q)⟩) (by intros; kernel_rfl)
  refine br_B (o.k == 5) (by kernel_rfl) (fun k5 => ?_) (fun k5 => ?_)
  · -- Trim
    obtain ⟨up, eup⟩ : ∃ up, up = min o.m (L.next - 1) := ⟨_, rfl⟩
    have hw : IntKind.i64.wrap (A.next - 1) = L.next - 1 := by rw [nx]; exact wrap_i64 (by omega)
    refine ⟨fun vs hx' => vs = ⟨[up], [], [], [], []⟩ ∧ hx' = B.and (lnX F nb L), ?_, ?_⟩
    · refine br_D (p := o.m ≥ A.next) (by kernel_rfl) (fun h => ?_) (fun h => ?_)
      · exact again_V ⟨[IntKind.i64.wrap (A.next - 1)], [], [], [], []⟩ rfl (by intros; kernel_rfl) _ (fun w2 ids hf => ⟨hf.x, hf.sep⟩) ⟨by rw [hw, eup, show min o.m (L.next - 1) = L.next - 1 by omega], rfl⟩
      · exact again_V ⟨[o.m], [], [], [], []⟩ rfl (by intros; kernel_rfl) _ (fun w2 ids hf => ⟨hf.x, hf.sep⟩) ⟨by rw [eup, show min o.m (L.next - 1) = o.m by omega], rfl⟩
    rintro vs hx' hcnt ⟨rfl, rfl⟩
    refine node_trim o.m hown hinv (by intros; kernel_rfl) (by intros; kernel_rfl) (by kernel_rfl) (by kernel_rfl) (by kernel_rfl) ?_
    intro F2 hown2
    refine node_ral (V := id) (A := A) (Q := WoQ A up false) (fun _ => #[A.val, .int .i64 up, .bool false]) (fun A' => ⟨[A'.next, A'.top], [], [], [A'.mem.length, A'.cm, A'.ks.length, A'.ck, A'.ds.length, A'.cd], [A'.am, A'.ak, A'.ad]⟩) hown2 (by intros; kernel_rfl) BFA (fun ids w2 hp hf => rwithout_any up false w2 ok (BA hf.x.1)) (fun A' _ => (by intros; kernel_rfl)) (by kernel_rfl) (by kernel_rfl) (fun A' _ => by kernel_rfl) (fun _ _ => oneNil) ?_
    intro A' hQ hFA hown3
    exact call_done (hS.trim eup hQ) (fun w h => ⟨h.2, h.1.2⟩) (fun k hk => ⟨.inr hk, (hown3 k hk).2⟩) (fun k hk => ⟨(hFA k hk).imp id (·.1), fun q => (hown3 k q).1 (.inr hk)⟩) (by intros; kernel_rfl)
  refine br_B (o.k == 6) (by kernel_rfl) (fun k6 => ?_) (fun k6 => ?_)
  · -- Jump
    have no : ∀ {m m2 m3 : Mem} {ρ : Env} {r sv : SV} {args : List SV}, ¬ (L.next < o.m ∧ o.m ≤ 1099511627776) → (∀ ids, (args.map (SV.den ρ ids)).toArray = #[.pointer (some ⟨nb, 0, none⟩), .int .i64 o.m]) → (∀ ids, r.den (ρ.add ⟨[], [false], [], [], []⟩) ids = .bool false) → m2.hp = m.hp → hpFits m.c m.hp.length m.hp = true → (ρ.add ⟨[], [false], [], [], []⟩).cnt = m2.c → (∀ ids, sv.den (ρ.add ⟨[], [false], [], [], []⟩) ids = .tuple #[A.val, .bool true]) → (Tree.call 24 args m r m2 (.done sv m3)).holds ⟨Try.prog, w, F, CallR w F nb A i⟩ ρ [] (B.and (lnX F nb L)) [] := fun h e1 e2 e3 e4 e5 e6 => by
      have hj := jump_no h
      refine node_jump o.m hown hinv false (by rw [hj]) e1 e2 e3 e4 e5 ?_
      intro F2 hown2
      rw [hj]
      exact same hS.more (fun w h => ⟨h.2, h.1⟩) (fun k hk => ⟨.inr hk, (hown2 k hk).2, fun q => (hown2 k hk).1 q⟩) e6
    refine br_D (p := o.m > A.next) (by kernel_rfl) (fun h1 => ?_) (fun h1 => no (by omega) (by intros; kernel_rfl) (by intros; kernel_rfl) (by kernel_rfl) (by kernel_rfl) (by kernel_rfl) (by intros; kernel_rfl))
    refine br_D (p := o.m ≤ 1099511627776) (by kernel_rfl) (fun h2 => ?_) (fun h2 => no (by omega) (by intros; kernel_rfl) (by intros; kernel_rfl) (by kernel_rfl) (by kernel_rfl) (by kernel_rfl) (by intros; kernel_rfl))
    have hw : IntKind.i64.wrap (o.m - 1) = o.m - 1 := wrap_i64 (by omega)
    have hj : L.next < o.m ∧ o.m ≤ 1099511627776 := by omega
    refine node_ral (V := id) (A := A) (Q := WoQ A (o.m - 1) true) (fun _ => #[A.val, .int .i64 (o.m - 1), .bool true]) (fun A' => ⟨[A'.next, A'.top], [], [], [A'.mem.length, A'.cm, A'.ks.length, A'.ck, A'.ds.length, A'.cd], [A'.am, A'.ak, A'.ad]⟩) hown (fun ids => by rw [← hw]; kernel_rfl) BFA (fun ids w2 hp hf => rwithout_any (o.m - 1) true w2 ok (BA hf.x.1)) (fun A' _ => (by intros; kernel_rfl)) (by kernel_rfl) (by kernel_rfl) (fun A' _ => by kernel_rfl) (fun _ _ => oneNil) ?_
    intro A' hQ hFA hown2
    refine node_jump o.m hown2 hinv true (jump_yes hj) (by intros; kernel_rfl) (by intros; kernel_rfl) (by kernel_rfl) (by kernel_rfl) (by kernel_rfl) ?_
    intro F2 hown3
    exact call_done (hS.jump hj hQ) (fun w h => ⟨h.2, h.1.2⟩) (fun k hk => ⟨.inr hk, (hown3 k hk).2⟩) (fun k hk => ⟨(hFA k hk).imp id (·.1), fun q => (hown3 k q).1 (.inr hk)⟩) (by intros; kernel_rfl)
  · exact same hS.more (fun w h => ⟨h.2, h.1⟩) (fun k hk => ⟨.inr hk, (hown k hk).2, (hown k hk).1⟩) (by intros; kernel_rfl)
end
end Go.Proofs.Ythmlhnkdiafpkaa
