/- The learner's methods, as a caller meets them. -/
import Derived.Test.YthmlhnkdiafpkaaLnE
namespace Go.Proofs.Ythmlhnkdiafpkaa
open Go.ChangeShapes Go.WideShapes Go.ChangeAt Go.RowKit Go.Syn Go.Eng Go.MapKept
set_option linter.unusedVariables false
set_option linter.unusedSimpArgs false
set_option maxRecDepth 100000
def lnX (F : Nat → Prop) (nb : Nat) (L : Ln) : HX := HX.obj F (LnO nb L)
/-- The blocks F are the walk's own, and apart from the rest. -/
def OwnF (W : World) (M : Nat → Prop) (rest : HX) (F : Nat → Prop) : Prop := ∀ k, F k → ¬ rest.F k ∧ (W.heap.size ≤ k ∨ M k)
section
variable {W : World} {M : Nat → Prop} {RR : Ending → World → Prop} {ρ : Env} {pre : List Nat} {rest hx : HX} {S : Stack} {m m' : Mem} {args : List SV} {r : SV} {t : Tree} {F : Nat → Prop} {nb : Nat} {L : Ln}
theorem node_lnew (a : List Nat → Option Addr) (cap : Nat) (mem : List Int) (next : Int) (hargs : ∀ ids, (args.map (SV.den ρ ids)).toArray = #[.slice (a ids) mem.length cap, .int .i64 next]) (hat : ∀ ids w, pre <+: ids → Facts ⟨Try.prog, W, M, RR⟩ m ρ ids hx w → Ints w (a ids) mem) (hok : setOkB mem = true ∧ 1 ≤ next ∧ next ≤ 1099511627776)
    (hr : ∀ v ids, r.den (ρ.add ⟨[], [], [v], [], []⟩) ids = v) (hhp : m'.hp = m.hp) (hfit : hpFits m.c m.hp.length m.hp = true) (hc : ∀ v, (ρ.add ⟨[], [], [v], [], []⟩).cnt = m'.c)
    (h : ∀ nb F, OwnF W M hx F → t.holds ⟨Try.prog, W, M, RR⟩ (ρ.add ⟨[], [], [.pointer (some ⟨nb, 0, none⟩)], [], []⟩) pre (hx.and (lnX F nb (Ln.new mem next))) S) : (Tree.call 9 args m r m' t).holds ⟨Try.prog, W, M, RR⟩ ρ pre hx S := by
  refine node_out (fun ids => #[.slice (a ids) mem.length cap, .int .i64 next]) (fun vs h' => ∃ nb F, vs = ⟨[], [], [.pointer (some ⟨nb, 0, none⟩)], [], []⟩ ∧ h' = lnX F nb (Ln.new mem next)) hargs (fun ids w hp hf => ?_) hhp hfit ?_ ?_
  · refine (lnew_any (a ids) cap mem next w (hat ids w hp hf)).mono ?_
    intro e w' h
    rw [if_pos hok] at h
    obtain ⟨nb, F', rfl, h1, h2, h3⟩ := h
    exact ⟨_, _, ⟨nb, F', rfl, rfl⟩, by rw [hr], h1, h2, h3⟩
  · rintro vs h' ⟨nb, F', rfl, rfl⟩
    exact ⟨hc _, fun v hv => by simp only [List.mem_singleton] at hv; subst hv; rfl⟩
  · rintro vs h' ⟨nb, F', rfl, rfl⟩ hfr
    exact h nb F' fun k hk => ⟨(hfr k hk).2, .inl (hfr k hk).1⟩
theorem node_lmut {f : Nat} {L' : Ln} {V : Value} (vs : Vals) (AS : List Nat → Array Value) (hown : OwnF W M rest F) (hargs : ∀ ids, (args.map (SV.den ρ ids)).toArray = AS ids)
    (hcall : ∀ ids w, pre <+: ids → Facts ⟨Try.prog, W, M, RR⟩ m ρ ids (rest.and (lnX F nb L)) w → Calls Try.prog f (AS ids) w (LnMut w F nb L' V))
    (hr : ∀ ids, r.den (ρ.add vs) ids = V) (hhp : m'.hp = m.hp) (hfit : hpFits m.c m.hp.length m.hp = true) (hc : (ρ.add vs).cnt = m'.c) (h1 : ∀ v, v ∈ vs.v → v.oneCell' = true)
    (h : ∀ F', OwnF W M rest F' → t.holds ⟨Try.prog, W, M, RR⟩ (ρ.add vs) pre (rest.and (lnX F' nb L')) S) : (Tree.call f args m r m' t).holds ⟨Try.prog, W, M, RR⟩ ρ pre (rest.and (lnX F nb L)) S := by
  refine node_mut AS (fun vs2 h' => vs2 = vs ∧ ∃ F', h' = lnX F' nb L') hargs (fun ids w hp hf => ?_) hown hhp hfit (fun vs2 h' q => by rw [q.1]; exact ⟨hc, h1⟩) ?_
  · refine (hcall ids w hp hf).mono ?_
    rintro e w' ⟨rfl, F', q1, q2, q3⟩
    exact ⟨vs, lnX F' nb L', ⟨rfl, F', rfl⟩, by rw [hr], q1, q2, q3⟩
  · rintro vs2 h' ⟨rfl, F', rfl⟩ hd
    exact h F' hd
theorem sep_of {ids : List Nat} {w : World} (hf : Facts ⟨Try.prog, W, M, RR⟩ m ρ ids (rest.and (lnX F nb L)) w) : ∀ k, F k → k < w.heap.size := fun k hk => (hf.sep k (.inr hk)).1
theorem apart_of {ids : List Nat} {w : World} (hown : OwnF W M rest F) (hf : Facts ⟨Try.prog, W, M, RR⟩ m ρ ids (rest.and (lnX F nb L)) w) {X : HX} (hv : ∀ k, X.F k → rest.F k ∨ k ∈ ids) : ∀ k, X.F k → ¬ F k := fun k hk q => (hv k hk).elim (hown k q).1 (hf.sep k (.inr q)).2
theorem node_told (slot : Int) (v : Vl) (a1 : List Nat → Option Addr) (c1 : Nat) (a2 : List Nat → Option Addr) (c2 : Nat) (hown : OwnF W M rest F) (hinv : LnInv L) (hsl : I64 slot) (b : Bool) (hb : (L.told slot v).2 = b) (hargs : ∀ ids, (args.map (SV.den ρ ids)).toArray = #[.pointer (some ⟨nb, 0, none⟩), .int .i64 slot, vlV v (a1 ids) c1 (a2 ids) c2])
    (hat : ∀ ids w, pre <+: ids → Facts ⟨Try.prog, W, M, RR⟩ m ρ ids (rest.and (lnX F nb L)) w → VlAt w v (a1 ids) (a2 ids) ∧ ∀ k, (vlX v (a1 ids) (a2 ids)).F k → rest.F k ∨ k ∈ ids)
    (hr : ∀ ids, r.den (ρ.add ⟨[], [b], [], [], []⟩) ids = .bool b) (hhp : m'.hp = m.hp) (hfit : hpFits m.c m.hp.length m.hp = true) (hc : (ρ.add ⟨[], [b], [], [], []⟩).cnt = m'.c)
    (h : ∀ F', OwnF W M rest F' → t.holds ⟨Try.prog, W, M, RR⟩ (ρ.add ⟨[], [b], [], [], []⟩) pre (rest.and (lnX F' nb (L.told slot v).1)) S) : (Tree.call 10 args m r m' t).holds ⟨Try.prog, W, M, RR⟩ ρ pre (rest.and (lnX F nb L)) S :=
  node_lmut ⟨[], [b], [], [], []⟩ (fun ids => #[.pointer (some ⟨nb, 0, none⟩), .int .i64 slot, vlV v (a1 ids) c1 (a2 ids) c2]) hown hargs (fun ids w hp hf => told_any F v (a1 ids) c1 (a2 ids) c2 hf.x.2 (sep_of hf) hinv hsl (hat ids w hp hf).1 (apart_of hown hf (hat ids w hp hf).2)) (by rw [hb]; exact hr) hhp hfit hc oneNil h
theorem node_voted (node slot rd nd : Int) (v : Vl) (a1 : List Nat → Option Addr) (c1 : Nat) (a2 : List Nat → Option Addr) (c2 : Nat) (hown : OwnF W M rest F) (hinv : LnInv L) (hsl : I64 slot) (b : Bool) (hb : (L.voted node slot rd nd v).2 = b) (hargs : ∀ ids, (args.map (SV.den ρ ids)).toArray = #[.pointer (some ⟨nb, 0, none⟩), .int .i64 node, .agg #[.int .i64 slot, .int .i64 rd, .int .i64 nd, .int .i64 v.k, .slice (a1 ids) v.cs.length c1, .slice (a2 ids) v.ns.length c2]])
    (hat : ∀ ids w, pre <+: ids → Facts ⟨Try.prog, W, M, RR⟩ m ρ ids (rest.and (lnX F nb L)) w → VlAt w v (a1 ids) (a2 ids) ∧ ∀ k, (vlX v (a1 ids) (a2 ids)).F k → rest.F k ∨ k ∈ ids)
    (hr : ∀ ids, r.den (ρ.add ⟨[], [b], [], [], []⟩) ids = .bool b) (hhp : m'.hp = m.hp) (hfit : hpFits m.c m.hp.length m.hp = true) (hc : (ρ.add ⟨[], [b], [], [], []⟩).cnt = m'.c)
    (h : ∀ F', OwnF W M rest F' → t.holds ⟨Try.prog, W, M, RR⟩ (ρ.add ⟨[], [b], [], [], []⟩) pre (rest.and (lnX F' nb (L.voted node slot rd nd v).1)) S) : (Tree.call 12 args m r m' t).holds ⟨Try.prog, W, M, RR⟩ ρ pre (rest.and (lnX F nb L)) S :=
  node_lmut ⟨[], [b], [], [], []⟩ (fun ids => #[.pointer (some ⟨nb, 0, none⟩), .int .i64 node, .agg #[.int .i64 slot, .int .i64 rd, .int .i64 nd, .int .i64 v.k, .slice (a1 ids) v.cs.length c1, .slice (a2 ids) v.ns.length c2]]) hown hargs (fun ids w hp hf => voted_any F v (a1 ids) c1 (a2 ids) c2 hf.x.2 (sep_of hf) hinv hsl (hat ids w hp hf).1 (apart_of hown hf (hat ids w hp hf).2)) (by rw [hb]; exact hr) hhp hfit hc oneNil h
theorem node_pass (hown : OwnF W M rest F) (hinv : LnInv L) (b : Bool) (hb : L.pass.2 = b) (hargs : ∀ ids, (args.map (SV.den ρ ids)).toArray = #[.pointer (some ⟨nb, 0, none⟩)])
    (hr : ∀ ids, r.den (ρ.add ⟨[], [b], [], [], []⟩) ids = .bool b) (hhp : m'.hp = m.hp) (hfit : hpFits m.c m.hp.length m.hp = true) (hc : (ρ.add ⟨[], [b], [], [], []⟩).cnt = m'.c)
    (h : ∀ F', OwnF W M rest F' → t.holds ⟨Try.prog, W, M, RR⟩ (ρ.add ⟨[], [b], [], [], []⟩) pre (rest.and (lnX F' nb L.pass.1)) S) : (Tree.call 15 args m r m' t).holds ⟨Try.prog, W, M, RR⟩ ρ pre (rest.and (lnX F nb L)) S :=
  node_lmut ⟨[], [b], [], [], []⟩ (fun ids => #[.pointer (some ⟨nb, 0, none⟩)]) hown hargs (fun ids w hp hf => pass_any F hf.x.2 (sep_of hf) hinv) (by rw [hb]; exact hr) hhp hfit hc oneNil h
theorem node_trim (slot : Int) (hown : OwnF W M rest F) (hinv : LnInv L) (hargs : ∀ ids, (args.map (SV.den ρ ids)).toArray = #[.pointer (some ⟨nb, 0, none⟩), .int .i64 slot])
    (hr : ∀ ids, r.den (ρ.add Vals.nil) ids = .tuple #[]) (hhp : m'.hp = m.hp) (hfit : hpFits m.c m.hp.length m.hp = true) (hc : (ρ.add Vals.nil).cnt = m'.c)
    (h : ∀ F', OwnF W M rest F' → t.holds ⟨Try.prog, W, M, RR⟩ (ρ.add Vals.nil) pre (rest.and (lnX F' nb (L.trim slot))) S) : (Tree.call 28 args m r m' t).holds ⟨Try.prog, W, M, RR⟩ ρ pre (rest.and (lnX F nb L)) S :=
  node_lmut Vals.nil (fun ids => #[.pointer (some ⟨nb, 0, none⟩), .int .i64 slot]) hown hargs (fun ids w hp hf => trim_any F slot hf.x.2 (sep_of hf) hinv) hr hhp hfit hc oneNil h
theorem node_jump (slot : Int) (hown : OwnF W M rest F) (hinv : LnInv L) (b : Bool) (hb : (L.jump slot).2 = b) (hargs : ∀ ids, (args.map (SV.den ρ ids)).toArray = #[.pointer (some ⟨nb, 0, none⟩), .int .i64 slot])
    (hr : ∀ ids, r.den (ρ.add ⟨[], [b], [], [], []⟩) ids = .bool b) (hhp : m'.hp = m.hp) (hfit : hpFits m.c m.hp.length m.hp = true) (hc : (ρ.add ⟨[], [b], [], [], []⟩).cnt = m'.c)
    (h : ∀ F', OwnF W M rest F' → t.holds ⟨Try.prog, W, M, RR⟩ (ρ.add ⟨[], [b], [], [], []⟩) pre (rest.and (lnX F' nb (L.jump slot).1)) S) : (Tree.call 24 args m r m' t).holds ⟨Try.prog, W, M, RR⟩ ρ pre (rest.and (lnX F nb L)) S :=
  node_lmut ⟨[], [b], [], [], []⟩ (fun ids => #[.pointer (some ⟨nb, 0, none⟩), .int .i64 slot]) hown hargs (fun ids w hp hf => jump_any F slot hf.x.2 (sep_of hf) hinv) (by rw [hb]; exact hr) hhp hfit hc oneNil h
theorem node_lval {f : Nat} {V : Value → Value} {v : Vl} (AS : Array Value) (hown : OwnF W M rest F) (vs : Option Addr → Nat → Option Addr → Nat → Vals) (hargs : ∀ ids, (args.map (SV.den ρ ids)).toArray = AS)
    (hcall : ∀ ids w, pre <+: ids → Facts ⟨Try.prog, W, M, RR⟩ m ρ ids (rest.and (lnX F nb L)) w → Calls Try.prog f AS w (VlNew w V v))
    (hr : ∀ a1 c1 a2 c2 ids, r.den (ρ.add (vs a1 c1 a2 c2)) ids = V (vlV v a1 c1 a2 c2)) (hhp : m'.hp = m.hp) (hfit : hpFits m.c m.hp.length m.hp = true) (hc : ∀ a1 c1 a2 c2, (ρ.add (vs a1 c1 a2 c2)).cnt = m'.c) (h1 : ∀ a1 c1 a2 c2 v, v ∈ (vs a1 c1 a2 c2).v → v.oneCell' = true)
    (h : ∀ a1 c1 a2 c2, (∀ k, (vlX v a1 a2).F k → W.heap.size ≤ k ∧ ¬ rest.F k) → OwnF W M (rest.and (vlX v a1 a2)) F → t.holds ⟨Try.prog, W, M, RR⟩ (ρ.add (vs a1 c1 a2 c2)) pre ((rest.and (vlX v a1 a2)).and (lnX F nb L)) S) : (Tree.call f args m r m' t).holds ⟨Try.prog, W, M, RR⟩ ρ pre (rest.and (lnX F nb L)) S := by
  refine node_vl (V := V) (v := v) (fun _ => AS) vs hargs hcall hr hhp hfit hc h1 fun a1 c1 a2 c2 hfr => ?_
  refine holds_eq (HX.and_right_comm _ _ _) ?_
  exact h a1 c1 a2 c2 (fun k hk => ⟨(hfr k hk).1, fun q => (hfr k hk).2 (.inl q)⟩) fun k hk => ⟨fun q => q.elim (hown k hk).1 fun q => (hfr k q).2 (.inr hk), (hown k hk).2⟩
theorem node_known (slot : Int) (hown : OwnF W M rest F) (v : Vl) (b : Bool) (hv : L.known slot = (v, b)) (hargs : ∀ ids, (args.map (SV.den ρ ids)).toArray = #[.pointer (some ⟨nb, 0, none⟩), .int .i64 slot])
    (hr : ∀ a1 c1 a2 c2 ids, r.den (ρ.add ⟨[v.k], [b], [], [v.cs.length, c1, v.ns.length, c2], [a1, a2]⟩) ids = .tuple #[vlV v a1 c1 a2 c2, .bool b]) (hhp : m'.hp = m.hp) (hfit : hpFits m.c m.hp.length m.hp = true) (hc : ∀ c1 c2 a1 a2, (ρ.add ⟨[v.k], [b], [], [v.cs.length, c1, v.ns.length, c2], [a1, a2]⟩).cnt = m'.c)
    (h : ∀ a1 c1 a2 c2, (∀ k, (vlX v a1 a2).F k → W.heap.size ≤ k ∧ ¬ rest.F k) → OwnF W M (rest.and (vlX v a1 a2)) F → t.holds ⟨Try.prog, W, M, RR⟩ (ρ.add ⟨[v.k], [b], [], [v.cs.length, c1, v.ns.length, c2], [a1, a2]⟩) pre ((rest.and (vlX v a1 a2)).and (lnX F nb L)) S) : (Tree.call 21 args m r m' t).holds ⟨Try.prog, W, M, RR⟩ ρ pre (rest.and (lnX F nb L)) S := by
  refine node_lval (V := fun x => .tuple #[x, .bool b]) (v := v) #[.pointer (some ⟨nb, 0, none⟩), .int .i64 slot] hown (fun a1 c1 a2 c2 => ⟨[v.k], [b], [], [v.cs.length, c1, v.ns.length, c2], [a1, a2]⟩) hargs (fun ids w hp hf => ?_) hr hhp hfit (fun _ _ _ _ => hc _ _ _ _) (fun _ _ _ _ => oneNil) h
  obtain ⟨D, hok, hnb, hB, hX, Fnb, hsub⟩ := obj_open hf.x.2
  have := known_any (slot := slot) hB hX hok hnb (fun k hk => sep_of hf k (hsub k hk))
  rw [hv] at this; exact this
theorem node_lnext (hown : OwnF W M rest F) (v : Vl) (b : Bool) (hv : L.known L.next = (v, b)) (hargs : ∀ ids, (args.map (SV.den ρ ids)).toArray = #[.pointer (some ⟨nb, 0, none⟩)])
    (hr : ∀ a1 c1 a2 c2 ids, r.den (ρ.add ⟨[L.next, v.k], [b], [], [v.cs.length, c1, v.ns.length, c2], [a1, a2]⟩) ids = .tuple #[.int .i64 L.next, vlV v a1 c1 a2 c2, .bool b]) (hhp : m'.hp = m.hp) (hfit : hpFits m.c m.hp.length m.hp = true) (hc : ∀ c1 c2 a1 a2, (ρ.add ⟨[L.next, v.k], [b], [], [v.cs.length, c1, v.ns.length, c2], [a1, a2]⟩).cnt = m'.c)
    (h : ∀ a1 c1 a2 c2, (∀ k, (vlX v a1 a2).F k → W.heap.size ≤ k ∧ ¬ rest.F k) → OwnF W M (rest.and (vlX v a1 a2)) F → t.holds ⟨Try.prog, W, M, RR⟩ (ρ.add ⟨[L.next, v.k], [b], [], [v.cs.length, c1, v.ns.length, c2], [a1, a2]⟩) pre ((rest.and (vlX v a1 a2)).and (lnX F nb L)) S) : (Tree.call 13 args m r m' t).holds ⟨Try.prog, W, M, RR⟩ ρ pre (rest.and (lnX F nb L)) S := by
  refine node_lval (V := fun x => .tuple #[.int .i64 L.next, x, .bool b]) (v := v) #[.pointer (some ⟨nb, 0, none⟩)] hown (fun a1 c1 a2 c2 => ⟨[L.next, v.k], [b], [], [v.cs.length, c1, v.ns.length, c2], [a1, a2]⟩) hargs (fun ids w hp hf => ?_) hr hhp hfit (fun _ _ _ _ => hc _ _ _ _) (fun _ _ _ _ => oneNil) h
  obtain ⟨D, hok, hnb, hB, hX, Fnb, hsub⟩ := obj_open hf.x.2
  have := lnext_any hB hX hok hnb (fun k hk => sep_of hf k (hsub k hk))
  rw [hv] at this; exact this
theorem node_lsize (hinv : LnInv L) (n : Nat) (hn : L.size = n) (hargs : ∀ ids, (args.map (SV.den ρ ids)).toArray = #[.pointer (some ⟨nb, 0, none⟩)]) (hr : ∀ ids, r.den (ρ.add ⟨[(n : Int)], [], [], [], []⟩) ids = .int .i64 (n : Int)) (hhp : m'.hp = m.hp) (hfit : hpFits m.c m.hp.length m.hp = true) (hc : (ρ.add ⟨[(n : Int)], [], [], [], []⟩).cnt = m'.c)
    (h : t.holds ⟨Try.prog, W, M, RR⟩ (ρ.add ⟨[(n : Int)], [], [], [], []⟩) pre (rest.and (lnX F nb L)) S) : (Tree.call 16 args m r m' t).holds ⟨Try.prog, W, M, RR⟩ ρ pre (rest.and (lnX F nb L)) S := by
  refine node_PI ⟨[(n : Int)], [], [], [], []⟩ (fun _ => #[.pointer (some ⟨nb, 0, none⟩)]) (.int .i64 (n : Int)) hargs hr hhp hfit hc oneNil (fun ids w hp hf => ?_) h
  obtain ⟨D, hok, hnb, hB, hX, Fnb, hsub⟩ := obj_open hf.x.2
  have := lsize_any hB hX hok hinv hnb (fun k hk => sep_of hf k (hsub k hk))
  rw [hn] at this; exact this
theorem node_lmiss (most : Int) (hown : OwnF W M rest F) (hinv : LnInv L) (xs : List Int) (hx : L.missing most = xs) (hargs : ∀ ids, (args.map (SV.den ρ ids)).toArray = #[.pointer (some ⟨nb, 0, none⟩), .int .i64 most]) (hr : ∀ a' c' ids, r.den (ρ.add ⟨[], [], [], [xs.length, c'], [a']⟩) ids = .slice a' xs.length c') (hhp : m'.hp = m.hp) (hfit : hpFits m.c m.hp.length m.hp = true) (hc : ∀ a' c', (ρ.add ⟨[], [], [], [xs.length, c'], [a']⟩).cnt = m'.c)
    (h : ∀ a' c', OwnF W M (rest.and (HX.rw 1 3 a' xs.length c' (xs.map (Value.int .i64)))) F → t.holds ⟨Try.prog, W, M, RR⟩ (ρ.add ⟨[], [], [], [xs.length, c'], [a']⟩) pre ((rest.and (HX.rw 1 3 a' xs.length c' (xs.map (Value.int .i64)))).and (lnX F nb L)) S) : (Tree.call 23 args m r m' t).holds ⟨Try.prog, W, M, RR⟩ ρ pre (rest.and (lnX F nb L)) S := by
  refine node_rwn (V := id) (sz := 1) (e := 3) (xs := xs.map (Value.int .i64)) (fun _ => #[.pointer (some ⟨nb, 0, none⟩), .int .i64 most]) (fun a' c' => ⟨[], [], [], [xs.length, c'], [a']⟩) hargs (fun ids w hp hf => ?_) hr hhp hfit hc (fun _ _ => oneNil) fun a' c' _ hfr => ?_
  · obtain ⟨D, hok, hnb, hB, hX, Fnb, hsub⟩ := obj_open hf.x.2
    have := lmiss_any most hB hX hok hinv hnb (fun k hk => sep_of hf k (hsub k hk))
    rw [hx] at this; exact this
  · refine holds_eq (HX.and_right_comm _ _ _) ?_
    exact h a' c' fun k hk => ⟨fun q => q.elim (hown k hk).1 fun q => (hfr k q.1 q.2).2 (.inr hk), (hown k hk).2⟩
end
end Go.Proofs.Ythmlhnkdiafpkaa
