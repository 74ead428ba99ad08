/- LearnerAgree. -/
import Derived.Test.YthmlhnkdiafpkaaLnW
import Derived.Test.YthmlhnkdiafpkaaLnQ
import Derived.Test.YthmlhnkdiafpkaaLnV3
namespace Go.Eng
open Go.RowKit Go.Syn
section
variable {C : Cfg} {ρ : Env} {pre : List Nat} {hx : HX} {L : Stack} {m m' : Mem} {args : List SV} {r : SV} {t : Tree}
/-- A pure call whose answer names blocks of one's own. -/
theorem node_PJ {f : Nat} (vs : List Nat → Vals) (AS : List Nat → Array Value) (V : List Nat → Value) (hargs : ∀ ids, (args.map (SV.den ρ ids)).toArray = AS ids) (hr : ∀ ids, r.den (ρ.add (vs ids)) ids = V ids) (hhp : m'.hp = m.hp) (hfit : hpFits m.c m.hp.length m.hp = true) (hc : ∀ ids, (ρ.add (vs ids)).cnt = m'.c) (h1 : ∀ ids v, v ∈ (vs ids).v → v.oneCell' = true) (hcall : ∀ ids w, pre <+: ids → Facts C m ρ ids hx w → Calls C.P f (AS ids) w (PureAt w (V ids)))
    (h : ∀ ids, pre <+: ids → ids.length = m.hp.length → t.holds C (ρ.add (vs ids)) ids hx L) : (Tree.call f args m r m' t).holds C ρ pre hx L := by
  intro ids w hp hf
  rw [hargs]
  refine (hcall ids w hp hf).mono ?_
  rintro e w' ⟨rfl, hb⟩
  refine ⟨vs ids, ids, hx, by rw [hr], List.prefix_refl _, ?_, h ids hp hf.len⟩
  exact Facts.turn (row := none) hf ⟨hb.os, hb.tape, hb.output, hb.size, fun k hk _ => hb.block k hk⟩ (fun b e => by cases e) (hx.loc w w' hf.x fun k hk => hb.block k (hf.sep k hk).1) (fun k hk => .inl hk) hhp hfit (hc ids) (h1 ids)
end
end Go.Eng
namespace Go.Proofs.Ythmlhnkdiafpkaa
open Go.ChangeShapes Go.WideShapes Go.ChangeAt Go.RowKit Go.Syn Go.Eng Go.MapKept
set_option linter.unusedVariables false
set_option linter.unusedSimpArgs false
set_option maxRecDepth 100000
def nZ (s : Int) : Int := ifn .add .i64 (ifn .add .i64 1 (ifn .and .i64 s 1)) (ifn .and .i64 (ifn .shr .i64 s 1) 1)
def mZ (s : Int) : Int := ifn .add .i64 1 (ifn .rem .i64 (nZ s) 3)
theorem nZ_is (s : Int) : ∃ N : Nat, nZ s = (N : Int) ∧ 1 ≤ N ∧ N ≤ 3 := by
  have h1 := and_small (x := s) (n := 1) (by omega)
  have h2 := and_small (x := ifn .shr .i64 s 1) (n := 1) (by omega)
  have e1 : nZ s = 1 + ifn .and .i64 s 1 + ifn .and .i64 (ifn .shr .i64 s 1) 1 := by
    show IntKind.i64.wrap (IntKind.i64.wrap (1 + ifn .and .i64 s 1) + ifn .and .i64 (ifn .shr .i64 s 1) 1) = _
    have h1' : ifn .and .i64 s 1 ≤ 1 := h1.2
    have h2' : ifn .and .i64 (ifn .shr .i64 s 1) 1 ≤ 1 := h2.2
    have h1'' : 0 ≤ ifn .and .i64 s 1 := h1.1
    have h2'' : 0 ≤ ifn .and .i64 (ifn .shr .i64 s 1) 1 := h2.1
    rw [wrap_i64 (x := 1 + ifn .and .i64 s 1) (by omega), wrap_i64 (by omega)]
  have h1' : ifn .and .i64 s 1 ≤ 1 := h1.2
  have h2' : ifn .and .i64 (ifn .shr .i64 s 1) 1 ≤ 1 := h2.2
  have h1'' : 0 ≤ ifn .and .i64 s 1 := h1.1
  have h2'' : 0 ≤ ifn .and .i64 (ifn .shr .i64 s 1) 1 := h2.1
  exact ⟨(nZ s).toNat, by omega, by omega, by omega⟩
theorem mZ_is {s : Int} {N : Nat} (h : nZ s = (N : Int)) (h1 : 1 ≤ N) (h3 : N ≤ 3) : ∃ M : Nat, mZ s = (M : Int) ∧ 1 ≤ M ∧ M ≤ 3 ∧ N ≠ M := by
  have e : mZ s = IntKind.i64.wrap (1 + (nZ s).tmod 3) := rfl
  rw [h] at e
  have : N = 1 ∨ N = 2 ∨ N = 3 := by omega
  rcases this with rfl | rfl | rfl
  · exact ⟨2, by rw [e]; kernel_rfl, by decide, by decide, by decide⟩
  · exact ⟨3, by rw [e]; kernel_rfl, by decide, by decide, by decide⟩
  · exact ⟨1, by rw [e]; kernel_rfl, by decide, by decide, by decide⟩
def four (f : Nat → Int) : List Value := [.int .i64 (f 0), .int .i64 (f 1), .int .i64 (f 2), .int .i64 (f 3)]
theorem spl4 (f : Nat → Int) (v : Int) : ∀ {N : Nat}, N ≤ 3 → spl (four f) N [.int .i64 v] = four (upd f N v)
  | 0, _ => rfl
  | 1, _ => rfl
  | 2, _ => rfl
  | 3, _ => rfl
  | n + 4, h => by omega
theorem get4 (f : Nat → Int) : ∀ {N : Nat}, N ≤ 3 → (four f)[N]? = some (.int .i64 (f N))
  | 0, _ => rfl
  | 1, _ => rfl
  | 2, _ => rfl
  | 3, _ => rfl
  | n + 4, h => by omega
theorem agV_fit (b : Int) : VlFit (agV b) := ⟨(fun n h => by cases h), by show 1 ≤ 2199023255552; omega, by show 0 ≤ 17592186044416; omega⟩
/-- Two learners, apart from each other and from the rest. -/
structure Two (w : World) (B : HX) (Fa Fb : Nat → Prop) : Prop where
  a : ∀ k, Fa k → w.heap.size ≤ k ∧ ¬ B.F k ∧ ¬ Fb k
  b : ∀ k, Fb k → w.heap.size ≤ k ∧ ¬ B.F k
structure AgS (bnd : Nat → Int) (vt : List (Nat × Nat)) (R : Nat) (vo wh : Nat → Int) (La Lb : Ln) : Prop where
  px : Px bnd vt R vo wh
  ia : LnInv La
  ib : LnInv Lb
  la : Lv bnd vt La
  lb : Lv bnd vt Lb
def agX (B : HX) (na : Nat) (Fa : Nat → Prop) (La : Ln) (nb : Nat) (Fb : Nat → Prop) (Lb : Ln) : HX := (B.and (lnX Fa na La)).and (lnX Fb nb Lb)
def AgI (w : World) (B : HX) (na nb : Nat) (vs : Vals) (hx : HX) (n : Nat) : Prop := ∃ (i R : Nat) (bnd : Nat → Int) (vt : List (Nat × Nat)) (pr vo wh : Nat → Int) (La Lb : Ln) (Fa Fb : Nat → Prop), n = 200 - i ∧ i ≤ 200 ∧ R ≤ i ∧
  vs = ⟨[bnd R, (R : Int), (i : Int), pr 0, pr 1, pr 2, pr 3, vo 0, vo 1, vo 2, vo 3, wh 0, wh 1, wh 2, wh 3], [], [], [], []⟩ ∧ AgS bnd vt R vo wh La Lb ∧ Two w B Fa Fb ∧ hx = agX B na Fa La nb Fb Lb
set_option maxHeartbeats 4000000 in
theorem agree_walk (a : Option Addr) (c : Nat) (ss : List Int) (w : World) (H : Ints w a ss) (sl : ss.length * 8 ≤ 140737488351232) :
    Calls Try.prog 5 #[.slice a ss.length c] w (PureAt w (.bool true)) := by
  refine calls_at (tab_ok _) Try.func5 rfl tLAgree (ρ := ⟨[], [], [], [ss.length, c], [a]⟩) (ids := []) (hx := HX.ints a ss) rfl (Facts.initq rfl oneNil H (fun k hk => by rw [hk.2]; exact (H.at_ (List.length_pos_iff.2 hk.1)).2.1)) ?_
  obtain ⟨B, eB⟩ : ∃ x, x = HX.ints a ss := ⟨_, rfl⟩
  rw [← eB]
  refine node_P ⟨[], [true], [], [], []⟩ #[] (.bool true) (by intros; kernel_rfl) (by intros; kernel_rfl) (by kernel_rfl) (by kernel_rfl) (by kernel_rfl) oneNil (fun ids w2 hp hf => head_any w2) ?_
  refine br_F false (by kernel_rfl) rfl ?_
  refine node_lnew (fun ids => some ⟨idAt ids 0, 0, none⟩) 3 [1, 2, 3] 1 (by intros; kernel_rfl) (fun ids w2 hp hf => ints_blk hf 0 _ _ [1, 2, 3] rfl (by kernel_rfl) (by decide) i123) ⟨ok123, by omega, by omega⟩ (by intros; kernel_rfl) (by kernel_rfl) (by kernel_rfl) (by intros; kernel_rfl) ?_
  intro na Fa0 hownA
  refine node_lnew (fun ids => some ⟨idAt ids 1, 0, none⟩) 3 [1, 2, 3] 1 (by intros; kernel_rfl) (fun ids w2 hp hf => ints_blk hf 1 _ _ [1, 2, 3] rfl (by kernel_rfl) (by decide) i123) ⟨ok123, by omega, by omega⟩ (by intros; kernel_rfl) (by kernel_rfl) (by kernel_rfl) (by intros; kernel_rfl) ?_
  intro nb Fb0 hownB
  refine ⟨fun _ _ => True, ?_, fun vs hx' _ _ => pure_out (fun _ => id) (by intros; kernel_rfl)⟩
  refine ⟨AgI w B na nb, fun ids w2 hp hf => ⟨_, 200, ⟨hf.x, hf.sep⟩, 0, 0, fun _ => 0, [], fun _ => 0, fun _ => 0, fun _ => 0, Ln.new [1, 2, 3] 1, Ln.new [1, 2, 3] 1, Fa0, Fb0, rfl, by omega, Nat.le_refl _, by kernel_rfl, ⟨px_new, inv123, inv123, lv_new, lv_new⟩, ⟨fun k hk => ⟨(hownA k hk).2.elim id False.elim, (hownA k hk).1, fun q => (hownB k q).1 (.inr hk)⟩, fun k hk => ⟨(hownB k hk).2.elim id False.elim, fun q => (hownB k hk).1 (.inl q)⟩⟩, rfl⟩, ?_⟩
  rintro vs hx' n0 hcnt ⟨i, R, bnd, vt, pr, vo, wh, La, Lb, Fa, Fb, rfl, hi, hR, rfl, hS, hT, rfl⟩
  refine holds_env (ρ' := ⟨[bnd R, (R : Int), (i : Int), pr 0, pr 1, pr 2, pr 3, vo 0, vo 1, vo 2, vo 3, wh 0, wh 1, wh 2, wh 3], [true], [.pointer (some ⟨na, 0, none⟩), .pointer (some ⟨nb, 0, none⟩)], [ss.length, c], [a]⟩) rfl ?_
  have hout : ∀ {m : Mem} {S : Stack}, (Tree.again 41 ⟨[.var 3, .var 4, .var 5, .var 6, .var 7, .var 8, .var 9, .var 10, .var 11, .var 12, .var 13, .var 14], [], [], [], []⟩ m).holds ⟨Try.prog, w, fun _ => False, PureAt w (.bool true)⟩ ⟨[bnd R, (R : Int), (i : Int), pr 0, pr 1, pr 2, pr 3, vo 0, vo 1, vo 2, vo 3, wh 0, wh 1, wh 2, wh 3], [true], [.pointer (some ⟨na, 0, none⟩), .pointer (some ⟨nb, 0, none⟩)], [ss.length, c], [a]⟩ [] (agX B na Fa La nb Fb Lb) ((11, fun vs' hx'' => ∃ n', n' < 200 - i ∧ AgI w B na nb vs' hx'' n') :: (41, fun _ _ => True) :: S) := fun {m S} =>
    again_V ⟨[pr 0, pr 1, pr 2, pr 3, vo 0, vo 1, vo 2, vo 3, wh 0, wh 1, wh 2, wh 3], [], [], [], []⟩ rfl (by intros; kernel_rfl) _ (fun w2 ids hf => ⟨hf.x, hf.sep⟩) trivial
  refine br_D (p := (i : Int) < (ss.length : Int)) (by kernel_rfl) (fun hk => ?_) (fun hk => hout)
  refine br_D (p := (i : Int) < 200) (by kernel_rfl) (fun hk2 => ?_) (fun hk => hout)
  clear hout
  have hk : i < ss.length := by omega
  obtain ⟨s, hs⟩ : ∃ b, ss[i]? = some b := ⟨_, List.getElem?_eq_getElem hk⟩
  obtain ⟨s1, q1⟩ := ints_at H hs
  refine need_k (a.isSome = true ∧ 0 ≤ (i : Int) ∧ (i : Int) < (ss.length : Int)) (by kernel_rfl) ⟨s1, by omega, by omega⟩ ?_
  refine node_ld0 (k := ⟨15, 1, 2, 2, 1⟩) ⟨[s], [], [], [], []⟩ (.pointer (some (((a.getD ⟨0, 0, none⟩).add (i * 1)).add 0))) [.int .i64 s] (by intros; kernel_rfl) (by intros; kernel_rfl) (q1 _ id) ⟨by kernel_rfl, fun v hv => by simp only [List.mem_cons, List.not_mem_nil, or_false] at hv; rcases hv with rfl | rfl <;> rfl⟩ (by kernel_rfl) oneNil ?_
  obtain ⟨ρ, eρ⟩ : ∃ ρ : Env, ρ = ⟨[bnd R, (R : Int), (i : Int), pr 0, pr 1, pr 2, pr 3, vo 0, vo 1, vo 2, vo 3, wh 0, wh 1, wh 2, wh 3, s], [true], [.pointer (some ⟨na, 0, none⟩), .pointer (some ⟨nb, 0, none⟩)], [ss.length, c], [a]⟩ := ⟨_, rfl⟩
  refine holds_env (ρ' := ⟨[bnd R, (R : Int), (i : Int), pr 0, pr 1, pr 2, pr 3, vo 0, vo 1, vo 2, vo 3, wh 0, wh 1, wh 2, wh 3, s], [true], [.pointer (some ⟨na, 0, none⟩), .pointer (some ⟨nb, 0, none⟩)], [ss.length, c], [a]⟩) rfl ?_
  obtain ⟨N, eN, N1, N3⟩ := nZ_is s
  obtain ⟨M, eM, M1, M3, hNM⟩ := mZ_is eN N1 N3
  have hwi : IntKind.i64.wrap ((i : Int) + 1) = ((i + 1 : Nat) : Int) := by rw [wrap_i64 (by omega)]; omega
  have hwR : IntKind.i64.wrap ((R : Int) + 1) = (R : Int) + 1 := by rw [wrap_i64 (by omega)]
  have bN : 0 ≤ nZ s ∧ nZ s < 4 := by omega
  have bM : 0 ≤ mZ s ∧ mZ s < 4 := by omega
  have pN : ∀ (ids : List Nat) (k : Nat), Value.pointer (some ⟨idAt ids k, 0 + (nZ s).toNat * 1, none⟩) = .pointer (some ⟨idAt ids k, N, none⟩) := fun ids k => by rw [eN]; simp
  have pM : ∀ (ids : List Nat) (k : Nat), Value.pointer (some ⟨idAt ids k, 0 + (mZ s).toNat * 1, none⟩) = .pointer (some ⟨idAt ids k, M, none⟩) := fun ids k => by rw [eM]; simp
  have g4 : ∀ (f : Nat → Int) {K : Nat}, K ≤ 3 → ∀ (j : Nat) (u : Value), [Value.int .i64 (f K)][j]? = some u → (four f)[0 + K * 1 + j]? = some u := fun f {K} hK j u hj => by
    cases j with
    | zero =>
      simp only [List.getElem?_cons_zero, Option.some.injEq] at hj
      subst hj
      rw [show 0 + K * 1 + 0 = K by omega]; exact get4 f hK
    | succ j => simp at hj
  -- the next step
  have hend : ∀ {m : Mem} {ρ : Env} {S : Stack} {es : Vec} {pre : List Nat} {hx : HX} (R' : Nat) (bnd' : Nat → Int) (vt' : List (Nat × Nat)) (pr' vo' wh' : Nat → Int) (La' Lb' : Ln) (Fa' Fb' : Nat → Prop), lkup 11 S = some (fun vs' hx'' => ∃ n', n' < 200 - i ∧ AgI w B na nb vs' hx'' n') → R' ≤ i + 1 → AgS bnd' vt' R' vo' wh' La' Lb' → Two w B Fa' Fb' → (∀ w, hx.X w → (agX B na Fa' La' nb Fb' Lb').X w) → (∀ k, (agX B na Fa' La' nb Fb' Lb').F k → hx.F k) → (∀ ids, es.den ρ ids = ⟨[bnd' R', (R' : Int), ((i + 1 : Nat) : Int), pr' 0, pr' 1, pr' 2, pr' 3, vo' 0, vo' 1, vo' 2, vo' 3, wh' 0, wh' 1, wh' 2, wh' 3], [], [], [], []⟩) →
      (Tree.again 11 es m).holds ⟨Try.prog, w, fun _ => False, PureAt w (.bool true)⟩ ρ pre hx S := fun {m ρ S es pre hx} R' bnd' vt' pr' vo' wh' La' Lb' Fa' Fb' hlk hR' hS' hT' hX hF hes =>
    again_V _ hlk hes _ (fun w2 ids hf => ⟨hX w2 hf.x, fun k hk => hf.sep k (hF k hk)⟩) ⟨200 - (i + 1), by omega, i + 1, R', bnd', vt', pr', vo', wh', La', Lb', Fa', Fb', rfl, by omega, hR', rfl, hS', hT', rfl⟩
  refine br_B (ifn .and .i64 (ifn .shr .i64 s 2) 3 == 0) (by kernel_rfl) (fun hc => ?_) (fun hc => ?_)
  · -- a new round
    refine ⟨fun vs hx' => hx' = agX B na Fa La nb Fb Lb ∧ ∃ pr' : Nat → Int, vs = ⟨[(bind1 vo wh N (R + 1)).1, (bind1 vo wh N (R + 1)).2, pr' 0, pr' 1, pr' 2, pr' 3], [], [], [], []⟩, ?_, ?_⟩
    · refine need_k (0 ≤ nZ s ∧ nZ s < 4) (by kernel_rfl) bN ?_
      refine node_stp (n := 2) (o := N) ⟨[upd pr N (R + 1) 0, upd pr N (R + 1) 1, upd pr N (R + 1) 2, upd pr N (R + 1) 3], [], [], [], []⟩ (us := four pr) (us' := [.int .i64 ((R : Int) + 1)]) (v := .int .i64 ((R : Int) + 1)) rfl (by intros; kernel_rfl) (by kernel_rfl) (fun ids => Eq.trans (by kernel_rfl) (pN ids 2)) (fun ids => by rw [← hwR]; kernel_rfl) rfl (fun v hv => by simp only [List.mem_singleton] at hv; subst hv; rfl) (by show 0 < 1; omega) (by show N + 1 ≤ 4; omega) rfl (fun ids => by rw [spl4 pr _ N3]; kernel_rfl) (by kernel_rfl) (by kernel_rfl) oneNil ?_
      refine need_k (0 ≤ nZ s ∧ nZ s < 4) (by kernel_rfl) bN ?_
      refine node_ldp ⟨[vo N], [], [], [], []⟩ N (us := four vo) rfl (Eq.trans (b := nZ s) (by kernel_rfl) eN) (by intros; kernel_rfl) (fun ids j u hj => g4 vo N3 j u (Eq.trans (by kernel_rfl) hj)) (by kernel_rfl) oneNil ?_
      refine br_D (p := vo N > 0) (by kernel_rfl) (fun h0 => ?_) (fun h0 => ?_)
      · refine need_k (0 ≤ nZ s ∧ nZ s < 4) (by kernel_rfl) bN ?_
        refine node_ldp ⟨[vo N], [], [], [], []⟩ N (us := four vo) rfl (Eq.trans (b := nZ s) (by kernel_rfl) eN) (by intros; kernel_rfl) (fun ids j u hj => g4 vo N3 j u (Eq.trans (by kernel_rfl) hj)) (by kernel_rfl) oneNil ?_
        refine need_k (0 ≤ nZ s ∧ nZ s < 4) (by kernel_rfl) bN ?_
        refine node_ldp ⟨[wh N], [], [], [], []⟩ N (us := four wh) rfl (Eq.trans (b := nZ s) (by kernel_rfl) eN) (by intros; kernel_rfl) (fun ids j u hj => g4 wh N3 j u (Eq.trans (by kernel_rfl) hj)) (by kernel_rfl) oneNil ?_
        refine again_V ⟨[wh N, vo N, upd pr N (R + 1) 0, upd pr N (R + 1) 1, upd pr N (R + 1) 2, upd pr N (R + 1) 3], [], [], [], []⟩ rfl (by intros; kernel_rfl) _ (fun w2 ids hf => ⟨hf.x, hf.sep⟩) ⟨rfl, upd pr N (R + 1), ?_⟩
        unfold bind1; rw [if_pos h0]
      · refine again_V ⟨[(R : Int) + 1, 0, upd pr N (R + 1) 0, upd pr N (R + 1) 1, upd pr N (R + 1) 2, upd pr N (R + 1) 3], [], [], [], []⟩ rfl (fun ids => by rw [← hwR]; kernel_rfl) _ (fun w2 ids hf => ⟨hf.x, hf.sep⟩) ⟨rfl, upd pr N (R + 1), ?_⟩
        unfold bind1; rw [if_neg h0]
    rintro vs hx' hcnt2 ⟨rfl, pr', rfl⟩
    obtain ⟨⟨b1, best1⟩, ep1⟩ : ∃ p, p = bind1 vo wh N (R + 1) := ⟨_, rfl⟩
    rw [← ep1]
    refine ⟨fun vs hx' => hx' = agX B na Fa La nb Fb Lb ∧ ∃ pr' : Nat → Int, vs = ⟨[(bind2 vo wh M (b1, best1)).1, (bind2 vo wh M (b1, best1)).2, pr' 0, pr' 1, pr' 2, pr' 3], [], [], [], []⟩, ?_, ?_⟩
    · refine need_k (0 ≤ mZ s ∧ mZ s < 4) (by kernel_rfl) bM ?_
      refine node_stp (n := 2) (o := M) ⟨[upd pr' M (R + 1) 0, upd pr' M (R + 1) 1, upd pr' M (R + 1) 2, upd pr' M (R + 1) 3], [], [], [], []⟩ (us := four pr') (us' := [.int .i64 ((R : Int) + 1)]) (v := .int .i64 ((R : Int) + 1)) rfl (by intros; kernel_rfl) (by kernel_rfl) (fun ids => Eq.trans (by kernel_rfl) (pM ids 2)) (fun ids => by rw [← hwR]; kernel_rfl) rfl (fun v hv => by simp only [List.mem_singleton] at hv; subst hv; rfl) (by show 0 < 1; omega) (by show M + 1 ≤ 4; omega) rfl (fun ids => by rw [spl4 pr' _ M3]; kernel_rfl) (by kernel_rfl) (by kernel_rfl) oneNil ?_
      refine need_k (0 ≤ mZ s ∧ mZ s < 4) (by kernel_rfl) bM ?_
      refine node_ldp ⟨[vo M], [], [], [], []⟩ M (us := four vo) rfl (Eq.trans (b := mZ s) (by kernel_rfl) eM) (by intros; kernel_rfl) (fun ids j u hj => g4 vo M3 j u (Eq.trans (by kernel_rfl) hj)) (by kernel_rfl) oneNil ?_
      refine br_D (p := vo M > best1) (by kernel_rfl) (fun h0 => ?_) (fun h0 => ?_)
      · refine need_k (0 ≤ mZ s ∧ mZ s < 4) (by kernel_rfl) bM ?_
        refine node_ldp ⟨[vo M], [], [], [], []⟩ M (us := four vo) rfl (Eq.trans (b := mZ s) (by kernel_rfl) eM) (by intros; kernel_rfl) (fun ids j u hj => g4 vo M3 j u (Eq.trans (by kernel_rfl) hj)) (by kernel_rfl) oneNil ?_
        refine need_k (0 ≤ mZ s ∧ mZ s < 4) (by kernel_rfl) bM ?_
        refine node_ldp ⟨[wh M], [], [], [], []⟩ M (us := four wh) rfl (Eq.trans (b := mZ s) (by kernel_rfl) eM) (by intros; kernel_rfl) (fun ids j u hj => g4 wh M3 j u (Eq.trans (by kernel_rfl) hj)) (by kernel_rfl) oneNil ?_
        refine again_V ⟨[wh M, vo M, upd pr' M (R + 1) 0, upd pr' M (R + 1) 1, upd pr' M (R + 1) 2, upd pr' M (R + 1) 3], [], [], [], []⟩ rfl (by intros; kernel_rfl) _ (fun w2 ids hf => ⟨hf.x, hf.sep⟩) ⟨rfl, upd pr' M (R + 1), ?_⟩
        unfold bind2; rw [if_pos h0]
      · refine again_V ⟨[b1, best1, upd pr' M (R + 1) 0, upd pr' M (R + 1) 1, upd pr' M (R + 1) 2, upd pr' M (R + 1) 3], [], [], [], []⟩ rfl (by intros; kernel_rfl) _ (fun w2 ids hf => ⟨hf.x, hf.sep⟩) ⟨rfl, upd pr' M (R + 1), ?_⟩
        unfold bind2; rw [if_neg h0]
    rintro vs hx' hcnt3 ⟨rfl, pr'', rfl⟩
    have hpx := hS.px.round N1 N3 M1 M3 hNM
    rw [← ep1] at hpx
    have hold : ∀ x r, (x, r) ∈ vt → (if r = R + 1 then (bind2 vo wh M (b1, best1)).1 else bnd r) = bnd r := fun x r hx => if_neg (by have := (hS.px.vr x r hx).2.1; omega)
    refine hend (R + 1) (fun r => if r = R + 1 then (bind2 vo wh M (b1, best1)).1 else bnd r) vt pr'' vo wh La Lb Fa Fb rfl (by omega) ⟨hpx, hS.ia, hS.ib, hS.la.ext hold, hS.lb.ext hold⟩ hT (fun w h => h) (fun k hk => hk) (fun ids => ?_)
    dsimp only
    rw [if_pos rfl, ← hwi, show ((R + 1 : Nat) : Int) = (R : Int) + 1 by omega, ← hwR]
    kernel_rfl
  · -- a vote
    have stay : ∀ {m : Mem} {ρ : Env} {S : Stack} {es : Vec}, lkup 11 S = some (fun vs' hx'' => ∃ n', n' < 200 - i ∧ AgI w B na nb vs' hx'' n') → (∀ ids, es.den ρ ids = ⟨[bnd R, (R : Int), IntKind.i64.wrap ((i : Int) + 1), pr 0, pr 1, pr 2, pr 3, vo 0, vo 1, vo 2, vo 3, wh 0, wh 1, wh 2, wh 3], [], [], [], []⟩) → (Tree.again 11 es m).holds ⟨Try.prog, w, fun _ => False, PureAt w (.bool true)⟩ ρ [] (agX B na Fa La nb Fb Lb) S := fun {m ρ S es} hlk hes =>
      hend R bnd vt pr vo wh La Lb Fa Fb hlk (by omega) hS hT (fun w h => h) (fun k hk => hk) (fun ids => by rw [hes, hwi])
    refine br_D (p := (R : Int) = 0) (by kernel_rfl) (fun hR0 => stay rfl (by intros; kernel_rfl)) (fun hR0 => ?_)
    have hR1 : 1 ≤ R := by omega
    refine need_k (0 ≤ nZ s ∧ nZ s < 4) (by kernel_rfl) bN ?_
    refine node_ldp ⟨[pr N], [], [], [], []⟩ N (us := four pr) rfl (Eq.trans (b := nZ s) (by kernel_rfl) eN) (by intros; kernel_rfl) (fun ids j u hj => g4 pr N3 j u (Eq.trans (by kernel_rfl) hj)) (by kernel_rfl) oneNil ?_
    refine br_D (p := pr N > (R : Int)) (by kernel_rfl) (fun hpR => stay rfl (by intros; kernel_rfl)) (fun hpR => ?_)
    clear stay
    refine need_k (0 ≤ nZ s ∧ nZ s < 4) (by kernel_rfl) bN ?_
    refine node_stp (n := 2) (o := N) ⟨[upd pr N R 0, upd pr N R 1, upd pr N R 2, upd pr N R 3], [], [], [], []⟩ (us := four pr) (us' := [.int .i64 (R : Int)]) (v := .int .i64 (R : Int)) rfl (by intros; kernel_rfl) (by kernel_rfl) (fun ids => Eq.trans (by kernel_rfl) (pN ids 2)) (by intros; kernel_rfl) rfl (fun v hv => by simp only [List.mem_singleton] at hv; subst hv; rfl) (by show 0 < 1; omega) (by show N + 1 ≤ 4; omega) rfl (fun ids => by rw [spl4 pr _ N3]; kernel_rfl) (by kernel_rfl) (by kernel_rfl) oneNil ?_
    refine need_k (0 ≤ nZ s ∧ nZ s < 4) (by kernel_rfl) bN ?_
    refine node_stp (n := 3) (o := N) ⟨[upd vo N R 0, upd vo N R 1, upd vo N R 2, upd vo N R 3], [], [], [], []⟩ (us := four vo) (us' := [.int .i64 (R : Int)]) (v := .int .i64 (R : Int)) rfl (by intros; kernel_rfl) (by kernel_rfl) (fun ids => Eq.trans (by kernel_rfl) (pN ids 3)) (by intros; kernel_rfl) rfl (fun v hv => by simp only [List.mem_singleton] at hv; subst hv; rfl) (by show 0 < 1; omega) (by show N + 1 ≤ 4; omega) rfl (fun ids => by rw [spl4 vo _ N3]; kernel_rfl) (by kernel_rfl) (by kernel_rfl) oneNil ?_
    refine need_k (0 ≤ nZ s ∧ nZ s < 4) (by kernel_rfl) bN ?_
    refine node_stp (n := 4) (o := N) ⟨[upd wh N (bnd R) 0, upd wh N (bnd R) 1, upd wh N (bnd R) 2, upd wh N (bnd R) 3], [], [], [], []⟩ (us := four wh) (us' := [.int .i64 (bnd R)]) (v := .int .i64 (bnd R)) rfl (by intros; kernel_rfl) (by kernel_rfl) (fun ids => Eq.trans (by kernel_rfl) (pN ids 4)) (by intros; kernel_rfl) rfl (fun v hv => by simp only [List.mem_singleton] at hv; subst hv; rfl) (by show 0 < 1; omega) (by show N + 1 ≤ 4; omega) rfl (fun ids => by rw [spl4 wh _ N3]; kernel_rfl) (by kernel_rfl) (by kernel_rfl) oneNil ?_
    have hpx := hS.px.vote N1 N3 hR1
    have hbp := hS.px.bp R hR1 (Nat.le_refl _)
    obtain ⟨vo', evo⟩ : ∃ f, f = upd vo N R := ⟨_, rfl⟩
    obtain ⟨wh', ewh⟩ : ∃ f, f = upd wh N (bnd R) := ⟨_, rfl⟩
    obtain ⟨pr', epr⟩ : ∃ f, f = upd pr N R := ⟨_, rfl⟩
    rw [← evo, ← ewh] at hpx
    rw [← evo, ← ewh, ← epr]
    have hvv : valE (agV (bnd R)) = 0 := agV_ok hbp.1 (by omega)
    refine holds_env (ρ' := ⟨[bnd R, (R : Int), (i : Int), pr 0, pr 1, pr 2, pr 3, vo 0, vo 1, vo 2, vo 3, wh 0, wh 1, wh 2, wh 3, s, pr N, pr' 0, pr' 1, pr' 2, pr' 3, vo' 0, vo' 1, vo' 2, vo' 3, wh' 0, wh' 1, wh' 2, wh' 3], [true], [.pointer (some ⟨na, 0, none⟩), .pointer (some ⟨nb, 0, none⟩)], [ss.length, c], [a]⟩) rfl ?_
    have vat : ∀ {m : Mem} {ρ : Env} {ids ids0 : List Nat} {hx : HX} {w2 : World} {cs : List LV}, Facts ⟨Try.prog, w, fun _ => False, PureAt w (.bool true)⟩ m ρ ids hx w2 → ids0 <+: ids → 5 < ids0.length → m.hp[5]? = some (57, cs) → cellsDen ρ ids cs = ccells (agV (bnd R)).cs → VlAt w2 (agV (bnd R)) (some ⟨idAt ids0 5, 0, none⟩) none ∧ ∀ k, (vlX (agV (bnd R)) (some ⟨idAt ids0 5, 0, none⟩) none).F k → k ∈ ids := fun {m ρ ids ids0 hx w2 cs} hf hp h5 hm hcs => by
      have e5 : idAt ids 5 = idAt ids0 5 := idAt_pre hp h5
      refine ⟨(agV_fit _).at_ ⟨?_, cl_nil _ _⟩, fun k hk => ?_⟩
      · have hb := hf.blk 5 _ _ hm
        rw [hcs, e5] at hb
        exact blk_cells hb
      · rcases hk with hk | hk
        · rw [show k = idAt ids0 5 from hk.2, ← e5]
          exact idAt_mem (Nat.lt_of_lt_of_le h5 (by obtain ⟨t, rfl⟩ := hp; simp))
        · exact absurd rfl hk.1
    refine ⟨fun vs hx' => vs = Vals.nil ∧ ∃ La' Fa', LnInv La' ∧ Lv bnd ((N, R) :: vt) La' ∧ Two w B Fa' Fb ∧ hx' = agX B na Fa' La' nb Fb Lb, ?_, ?_⟩
    · refine br_B (ifn .and .i64 (ifn .shr .i64 s 4) 1 == 0) (by kernel_rfl) (fun h4 => ?_) (fun h4 => again_V Vals.nil rfl (by intros; kernel_rfl) _ (fun w2 ids hf => ⟨hf.x, hf.sep⟩) ⟨rfl, La, Fa, hS.ia, hS.la.up _, hT, rfl⟩)
      refine node_PJ (fun ids => ⟨[1, (R : Int), 1, 1], [], [], [1, 1, 0, 0], [some ⟨idAt ids 5, 0, none⟩, none]⟩) (fun ids => #[.int .i64 1, .int .i64 (R : Int), vlV (agV (bnd R)) (some ⟨idAt ids 5, 0, none⟩) 1 none 0]) (fun ids => .agg #[.int .i64 1, .int .i64 (R : Int), .int .i64 1, .int .i64 1, .slice (some ⟨idAt ids 5, 0, none⟩) 1 1, .slice none 0 0]) (by intros; kernel_rfl) (by intros; kernel_rfl) (by kernel_rfl) (by kernel_rfl) (by intros; kernel_rfl) (fun _ => oneNil) (fun ids w2 hp hf => vote_any 1 R (agV (bnd R)) _ 1 none 0 w2) ?_
      intro ids0 hp0 hl0
      refine holds_eq (HX.and_right_comm _ _ _) ?_
      refine node_voted (N : Int) 1 R 1 (agV (bnd R)) (fun _ => some ⟨idAt ids0 5, 0, none⟩) 1 (fun _ => none) 0 (fun k hk => ⟨fun q => q.elim (hT.a k hk).2.1 (hT.a k hk).2.2, .inl (hT.a k hk).1⟩) hS.ia (by unfold I64; omega) (La.voted N 1 R 1 (agV (bnd R))).2 rfl (fun ids => by rw [← eN]; kernel_rfl) (fun ids w2 hp hf => ?_) (by intros; kernel_rfl) (by kernel_rfl) (by kernel_rfl) (by kernel_rfl) ?_
      · obtain ⟨v1, v2⟩ := vat hf hp (by rw [hl0]; decide) rfl (by kernel_rfl)
        exact ⟨v1, fun k hk => .inr (v2 k hk)⟩
      intro Fa2 hFa2
      refine again_V Vals.nil rfl (by intros; kernel_rfl) (agX B na Fa2 (La.voted N 1 R 1 (agV (bnd R))).1 nb Fb Lb) (fun w2 ids hf => ⟨⟨⟨hf.x.1.1, hf.x.2⟩, hf.x.1.2⟩, fun k hk => hk.elim (fun q => q.elim (fun q => hf.sep k (.inl (.inl q))) fun q => hf.sep k (.inr q)) fun q => hf.sep k (.inl (.inr q))⟩) ⟨rfl, _, Fa2, hS.ia.voted, (hS.la.up (N, R)).hear (.head _), ⟨fun k hk => ⟨(hFa2 k hk).2.elim id False.elim, fun q => (hFa2 k hk).1 (.inl q), fun q => (hFa2 k hk).1 (.inr q)⟩, hT.b⟩, rfl⟩
    rintro vs hx' hcnt4 ⟨rfl, La', Fa', ia', la', hT', rfl⟩
    rw [Env.add_nil]
    refine ⟨fun vs hx' => vs = Vals.nil ∧ ∃ Lb' Fb', LnInv Lb' ∧ Lv bnd ((N, R) :: vt) Lb' ∧ Two w B Fa' Fb' ∧ hx' = agX B na Fa' La' nb Fb' Lb', ?_, ?_⟩
    · refine br_B (ifn .and .i64 (ifn .shr .i64 s 5) 1 == 0) (by kernel_rfl) (fun h4 => ?_) (fun h4 => again_V Vals.nil rfl (by intros; kernel_rfl) _ (fun w2 ids hf => ⟨hf.x, hf.sep⟩) ⟨rfl, Lb, Fb, hS.ib, hS.lb.up _, hT', rfl⟩)
      refine node_PJ (fun ids => ⟨[1, (R : Int), 1, 1], [], [], [1, 1, 0, 0], [some ⟨idAt ids 5, 0, none⟩, none]⟩) (fun ids => #[.int .i64 1, .int .i64 (R : Int), vlV (agV (bnd R)) (some ⟨idAt ids 5, 0, none⟩) 1 none 0]) (fun ids => .agg #[.int .i64 1, .int .i64 (R : Int), .int .i64 1, .int .i64 1, .slice (some ⟨idAt ids 5, 0, none⟩) 1 1, .slice none 0 0]) (by intros; kernel_rfl) (by intros; kernel_rfl) (by kernel_rfl) (by kernel_rfl) (by intros; kernel_rfl) (fun _ => oneNil) (fun ids w2 hp hf => vote_any 1 R (agV (bnd R)) _ 1 none 0 w2) ?_
      intro ids0 hp0 hl0
      refine node_voted (N : Int) 1 R 1 (agV (bnd R)) (fun _ => some ⟨idAt ids0 5, 0, none⟩) 1 (fun _ => none) 0 (fun k hk => ⟨fun q => q.elim (hT'.b k hk).2 (fun q => (hT'.a k q).2.2 hk), .inl (hT'.b k hk).1⟩) hS.ib (by unfold I64; omega) (Lb.voted N 1 R 1 (agV (bnd R))).2 rfl (fun ids => by rw [← eN]; kernel_rfl) (fun ids w2 hp hf => ?_) (by intros; kernel_rfl) (by kernel_rfl) (by kernel_rfl) (by kernel_rfl) ?_
      · obtain ⟨v1, v2⟩ := vat hf hp (by rw [hl0]; decide) rfl (by kernel_rfl)
        exact ⟨v1, fun k hk => .inr (v2 k hk)⟩
      intro Fb2 hFb2
      refine again_V Vals.nil rfl (by intros; kernel_rfl) _ (fun w2 ids hf => ⟨hf.x, hf.sep⟩) ⟨rfl, _, Fb2, hS.ib.voted, (hS.lb.up (N, R)).hear (.head _), ⟨fun k hk => ⟨(hT'.a k hk).1, (hT'.a k hk).2.1, fun q => (hFb2 k q).1 (.inr hk)⟩, fun k hk => ⟨(hFb2 k hk).2.elim id False.elim, fun q => (hFb2 k hk).1 (.inl q)⟩⟩, rfl⟩
    rintro vs hx' hcnt5 ⟨rfl, Lb', Fb', ib', lb', hT2, rfl⟩
    rw [Env.add_nil]
    clear vat
    obtain ⟨va, ba, eva⟩ : ∃ v b, La'.known 1 = (v, b) := ⟨_, _, rfl⟩
    obtain ⟨vb, bb, evb⟩ : ∃ v b, Lb'.known 1 = (v, b) := ⟨_, _, rfl⟩
    refine holds_eq (HX.and_right_comm _ _ _) ?_
    refine node_known 1 (fun k hk => ⟨fun q => q.elim (hT2.a k hk).2.1 (hT2.a k hk).2.2, .inl (hT2.a k hk).1⟩) va ba eva (by intros; kernel_rfl) (by intros; kernel_rfl) (by kernel_rfl) (by kernel_rfl) (by intros; kernel_rfl) ?_
    intro e1 g1 e2 g2 hfrA hownA2
    refine holds_eq (and_rot _ _ _ _) ?_
    refine node_known 1 (fun k hk => ⟨fun q => q.elim (fun q => q.elim (hT2.b k hk).2 fun q => (hfrA k q).2 (.inr hk)) fun q => (hT2.a k q).2.2 hk, .inl (hT2.b k hk).1⟩) vb bb evb (by intros; kernel_rfl) (by intros; kernel_rfl) (by kernel_rfl) (by kernel_rfl) (by intros; kernel_rfl) ?_
    intro e3 g3 e4 g4 hfrB hownB2
    have hfin : ∀ {m : Mem} {ρ : Env} {S : Stack} {es : Vec}, lkup 11 S = some (fun vs' hx'' => ∃ n', n' < 200 - i ∧ AgI w B na nb vs' hx'' n') → (∀ ids, es.den ρ ids = ⟨[bnd R, (R : Int), IntKind.i64.wrap ((i : Int) + 1), pr' 0, pr' 1, pr' 2, pr' 3, vo' 0, vo' 1, vo' 2, vo' 3, wh' 0, wh' 1, wh' 2, wh' 3], [], [], [], []⟩) → (Tree.again 11 es m).holds ⟨Try.prog, w, fun _ => False, PureAt w (.bool true)⟩ ρ [] ((((B.and (vlX va e1 e2)).and (lnX Fa' na La')).and (vlX vb e3 e4)).and (lnX Fb' nb Lb')) S := fun {m ρ S es} hlk hes =>
      hend R bnd ((N, R) :: vt) pr' vo' wh' La' Lb' Fa' Fb' hlk (by omega) ⟨hpx, ia', ib', la', lb'⟩ hT2 (fun w h => ⟨⟨h.1.1.1.1, h.1.1.2⟩, h.2⟩) (fun k hk => hk.elim (fun q => q.elim (fun q => .inl (.inl (.inl (.inl q)))) fun q => .inl (.inl (.inr q))) .inr) (fun ids => by rw [hes, hwi])
    refine br_B ba (by kernel_rfl) (fun hba => ?_) (fun hba => hfin rfl (by intros; kernel_rfl))
    refine br_B bb (by kernel_rfl) (fun hbb => ?_) (fun hbb => hfin rfl (by intros; kernel_rfl))
    have hget : ∀ {L : Ln} {v : Vl} {b : Bool}, L.known 1 = (v, b) → b = true → mlk L.de 1 = some v := fun {L v b} h hb => by
      unfold Ln.known at h
      cases e : mlk L.de 1 with
      | none => rw [e] at h; rw [← (Prod.mk.inj h).2] at hb; cases hb
      | some x => rw [e] at h; rw [← (Prod.mk.inj h).1]; rfl
    have heq : va = vb := lv_agree hpx la' lb' (hget eva hba) (hget evb hbb)
    have hfitA : VlFit va := by
      rcases la'.2.2 with ⟨r, _, e⟩ | ⟨e, _⟩
      · rw [hget eva hba] at e; rw [Option.some.inj e]; exact agV_fit _
      · rw [hget eva hba] at e; cases e
    refine node_PI ⟨[], [true], [], [], []⟩ (fun _ => #[vlV va e1 g1 e2 g2, vlV vb e3 g3 e4 g4]) (.bool true) (by intros; kernel_rfl) (by intros; kernel_rfl) (by kernel_rfl) (by kernel_rfl) (by kernel_rfl) oneNil (fun ids w2 hp hf => ?_) ?_
    · have := samev_any va e1 g1 e2 g2 vb e3 g3 e4 g4 w2 (hfitA.at_ hf.x.1.1.1.2) ((heq ▸ hfitA : VlFit vb).at_ hf.x.1.2)
      rw [vlSame_t heq] at this; exact this
    refine br_F false (by kernel_rfl) rfl ?_
    exact hfin rfl (by intros; kernel_rfl)
theorem agree_args (a : Option Addr) (c : Nat) (ss : List Int) (w : World) (H : Ints w a ss) (sl : ss.length * 8 ≤ 140737488351232) :
    Calls Try.prog 5 #[.slice a ss.length c] w (PureAt w (.bool true)) := agree_walk a c ss w H sl
end Go.Proofs.Ythmlhnkdiafpkaa
