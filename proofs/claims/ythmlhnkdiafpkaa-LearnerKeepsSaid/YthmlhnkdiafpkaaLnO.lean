/- LearnerOrder. -/
import Derived.Test.YthmlhnkdiafpkaaLnS
import Derived.Test.YthmlhnkdiafpkaaLnV1
namespace Go.Proofs.Ythmlhnkdiafpkaa
open Go.ChangeShapes Go.WideShapes Go.ChangeAt Go.RowKit Go.Syn Go.Eng Go.MapKept
set_option linter.unusedVariables false
set_option linter.unusedSimpArgs false
set_option maxRecDepth 100000
/-- The learner and the steps that were decided. -/
structure OrS (os : List OpL) (i : Nat) (want : Int) (L : Ln) (fs : List OpL) : Prop where
  inv : LnInv L
  fi : FsI L fs
  sub : ∀ f ∈ fs, f ∈ os
  next : L.next = want
  size : L.size ≤ i
  len : fs.length ≤ i
structure OrM (w : World) (base : HX) (nb : Nat) (a : Option Addr) (cap : Nat) (fs : List OpL) (F : Nat → Prop) : Prop where
  row : OwnR w base a cap
  sc : cap ≠ 0 → a.isSome = true
  sn : fs ≠ [] → cap ≠ 0
  own : OwnF w (fun _ => False) (base.and (voRow a cap fs)) F
def OrI (w : World) (base : HX) (nb : Nat) (os : List OpL) (vs : Vals) (hx : HX) (n : Nat) : Prop := ∃ (i : Nat) (want : Int) (L : Ln) (fs : List OpL) (a : Option Addr) (cap : Nat) (F : Nat → Prop), n = 100 - i ∧ i ≤ 100 ∧ vs = ⟨[want, (i : Int)], [], [], [fs.length, cap], [a]⟩ ∧ OrS os i want L fs ∧ OrM w base nb a cap fs F ∧ hx = (base.and (voRow a cap fs)).and (lnX F nb L)
def OrJ (w : World) (base : HX) (nb : Nat) (os : List OpL) (i : Nat) (want : Int) (vs : Vals) (hx : HX) : Prop := ∃ (L : Ln) (fs : List OpL) (a : Option Addr) (cap : Nat) (F : Nat → Prop), vs = ⟨[], [], [], [fs.length, cap], [a]⟩ ∧ OrS os (i + 1) want L fs ∧ OrM w base nb a cap fs F ∧ hx = (base.and (voRow a cap fs)).and (lnX F nb L)
def hitB (fs : List OpL) (n : Int) : Bool := fs.any fun f => f.slot == n
theorem hit_step {fs : List OpL} {j : Nat} {f : OpL} {n : Int} (h : fs[j]? = some f) : hitB (fs.take (j + 1)) n = (hitB (fs.take j) n || f.slot == n) := by
  unfold hitB
  rw [List.take_add_one, h, List.any_append]
  simp
set_option maxHeartbeats 2000000 in
theorem order_walk (ao : Option Addr) (co : Nat) (os : List OpL) (w : World) (Ho : Cells w ao (ocells os)) (hos : ∀ o ∈ os, OpOk w o) (so : os.length ≤ 4611686018427387903) :
    Calls Try.prog 3 #[.slice ao os.length co] w (PureAt w (.bool true)) := by
  have hsc := sc_X Ho hos
  refine calls_at (tab_ok _) Try.func3 rfl tLOrder (ρ := ⟨[], [], [], [os.length, co], [ao]⟩) (ids := []) (hx := scX ao os) rfl (Facts.initq rfl oneNil hsc (sc_lt hsc)) ?_
  obtain ⟨B, eB⟩ : ∃ x, x = scX ao os := ⟨_, rfl⟩
  rw [← eB]
  have BX : ∀ {w}, B.X w → (scX ao os).X w := fun h => by rw [eB] at h; exact h
  have BF : ∀ {k}, (scX ao os).F k → B.F k := fun h => by rw [eB]; exact h
  refine node_P ⟨[], [true], [], [], []⟩ #[] (.bool true) (by intros; kernel_rfl) (by intros; kernel_rfl) (by kernel_rfl) (by kernel_rfl) (by kernel_rfl) oneNil (fun ids w2 hp hf => head_any w2) ?_
  refine br_F false (by kernel_rfl) rfl ?_
  refine node_lnew (fun ids => some ⟨idAt ids 0, 0, none⟩) 3 [1, 2, 3] 1 (by intros; kernel_rfl) (fun ids w2 hp hf => ints_blk hf 0 _ _ [1, 2, 3] rfl (by kernel_rfl) (by decide) i123) ⟨ok123, by omega, by omega⟩ (by intros; kernel_rfl) (by kernel_rfl) (by kernel_rfl) (by intros; kernel_rfl) ?_
  intro nb F0 hown0
  refine ⟨fun vs hx' => vs = Vals.nil ∧ ∃ L F, LnInv L ∧ L.size ≤ 100 ∧ hx' = B.and (lnX F nb L), ?_, ?_⟩
  · refine ⟨OrI w B nb os, fun ids w2 hp hf => ⟨(B.and (voRow (some ⟨idAt ids 1, 0, none⟩) 0 [])).and (lnX F0 nb (Ln.new [1, 2, 3] 1)), 100, ⟨⟨⟨hf.x.1, HX.rw_nil _ _ _ _⟩, hf.x.2⟩, fun k hk => hk.elim (fun q => q.elim (fun q => hf.sep k (.inl q)) fun q => absurd rfl q.1) fun q => hf.sep k (.inr q)⟩, 0, 1, Ln.new [1, 2, 3] 1, [], some ⟨idAt ids 1, 0, none⟩, 0, F0, rfl, by omega, by kernel_rfl, ⟨inv123, fs_new, (fun f hf => by cases hf), rfl, by decide, by decide⟩, ⟨fun k h => absurd rfl h, fun h => absurd rfl h, fun h => absurd rfl h, fun k hk => ⟨fun q => q.elim (hown0 k hk).1 fun q => absurd rfl q.1, (hown0 k hk).2⟩⟩, rfl⟩, ?_⟩
    rintro vs hx' n hcnt ⟨i, want, L, fs, a, cap, F, rfl, hi, rfl, hS, hM, rfl⟩
    refine holds_env (ρ' := ⟨[want, (i : Int)], [true], [.pointer (some ⟨nb, 0, none⟩)], [os.length, co, fs.length, cap], [ao, a]⟩) rfl ?_
    have hout : ∀ {m : Mem} {ρ : Env} {S : Stack}, (Tree.again 31 ⟨[], [], [], [], []⟩ m).holds ⟨Try.prog, w, fun _ => False, PureAt w (.bool true)⟩ ρ [] ((B.and (voRow a cap fs)).and (lnX F nb L)) ((7, fun vs' hx'' => ∃ n', n' < 100 - i ∧ OrI w B nb os vs' hx'' n') :: (31, fun vs hx' => vs = Vals.nil ∧ ∃ L F, LnInv L ∧ L.size ≤ 100 ∧ hx' = B.and (lnX F nb L)) :: S) := fun {m ρ S} =>
      again_V Vals.nil rfl (by intros; kernel_rfl) (B.and (lnX F nb L)) (fun w2 ids hf => ⟨⟨hf.x.1.1, hf.x.2⟩, fun k hk => hf.sep k (hk.elim (fun q => .inl (.inl q)) .inr)⟩) ⟨rfl, L, F, hS.inv, Nat.le_trans hS.size hi, rfl⟩
    refine br_D (p := (i : Int) < (os.length : Int)) (by kernel_rfl) (fun hk => ?_) (fun hk => hout)
    refine br_D (p := (i : Int) < 100) (by kernel_rfl) (fun hk2 => ?_) (fun hk => hout)
    clear hout
    have hk : i < os.length := by omega
    obtain ⟨o, ho⟩ : ∃ b, os[i]? = some b := ⟨_, List.getElem?_eq_getElem hk⟩
    have hom := List.mem_of_getElem? ho
    obtain ⟨s1, q1⟩ := oc_elt Ho ho
    refine need_k (ao.isSome = true ∧ 0 ≤ (i : Int) ∧ (i : Int) < (os.length : Int)) (by kernel_rfl) ⟨s1, by omega, by omega⟩ ?_
    refine node_ld0 (k := ⟨2, 1, 1, 4, 2⟩) ⟨[o.k, o.node, o.slot, o.r, o.n, o.p.v.k, o.m], [], [], [o.p.v.cs.length, o.p.c1, o.p.v.ns.length, o.p.c2], [o.p.a1, o.p.a2]⟩ (.pointer (some (((ao.getD ⟨0, 0, none⟩).add (i * 9)).add 0))) o.cells (by intros; kernel_rfl) (by intros; kernel_rfl) q1 ⟨by kernel_rfl, (fun v hv => by simp only [List.mem_singleton] at hv; subst hv; rfl)⟩ (by kernel_rfl) oneNil ?_
    have hoat : ∀ {w}, B.X w → VlAt w o.p.v o.p.a1 o.p.a2 := fun h => sc_at (BX h) hos hom
    refine holds_env (ρ' := ⟨[want, (i : Int), o.k, o.node, o.slot, o.r, o.n, o.p.v.k, o.m], [true], [.pointer (some ⟨nb, 0, none⟩)], [os.length, co, fs.length, cap, o.p.v.cs.length, o.p.c1, o.p.v.ns.length, o.p.c2], [ao, a, o.p.a1, o.p.a2]⟩) rfl ?_
    refine ⟨OrJ w B nb os i want, ?_, ?_⟩
    · -- nothing was decided
      have hno : ∀ {m : Mem} {ρ : Env} {hx : HX} {S : Stack} (L' : Ln) (F' : Nat → Prop), L'.de = L.de → LnInv L' → L'.next = L.next → L'.size ≤ L.size + 1 → OwnF w (fun _ => False) (B.and (voRow a cap fs)) F' → (∀ w, hx.X w → ((B.and (voRow a cap fs)).and (lnX F' nb L')).X w) → (∀ k, ((B.and (voRow a cap fs)).and (lnX F' nb L')).F k → hx.F k) → (∀ ids, Vec.den ρ ids ⟨[], [], [], [.var 2, .var 3], [.var 1]⟩ = ⟨[], [], [], [fs.length, cap], [a]⟩) →
          (Tree.again 18 ⟨[], [], [], [.var 2, .var 3], [.var 1]⟩ m).holds ⟨Try.prog, w, fun _ => False, PureAt w (.bool true)⟩ ρ [] hx ((18, OrJ w B nb os i want) :: S) := fun L' F' hde hinv' hnx hsz hF' hX hFF hv =>
        again_V ⟨[], [], [], [fs.length, cap], [a]⟩ rfl hv _ (fun w2 ids hf => ⟨hX w2 hf.x, fun k hk => hf.sep k (hFF k hk)⟩) ⟨L', fs, a, cap, F', rfl, ⟨hinv', fs_same hS.fi hde, hS.sub, hnx.trans hS.next, by have := hS.size; omega, by have := hS.len; omega⟩, ⟨hM.row, hM.sc, hM.sn, hF'⟩, rfl⟩
      refine br_D (p := o.k = 1) (by kernel_rfl) (fun hk1 => ?A) (fun hk1 => ?B)
      case' A =>
        refine node_vl (V := id) (v := o.p.v) (fun _ => #[o.p.val]) (fun b1 d1 b2 d2 => ⟨[o.p.v.k], [], [], [o.p.v.cs.length, d1, o.p.v.ns.length, d2], [b1, b2]⟩) (by intros; kernel_rfl) (fun ids w2 hp hf => cpvl_any _ _ _ _ _ w2 (hoat hf.x.1.1)) (by intros; kernel_rfl) (by kernel_rfl) (by kernel_rfl) (by intros; kernel_rfl) (fun _ _ _ _ => oneNil) ?_
        intro b1 d1 b2 d2 hfr
        refine holds_eq (HX.and_right_comm _ _ _) ?_
        have hF' : OwnF w (fun _ => False) ((B.and (voRow a cap fs)).and (vlX o.p.v b1 b2)) F := fun k hk => ⟨fun q => q.elim (hM.own k hk).1 fun q => (hfr k q).2 (.inr hk), (hM.own k hk).2⟩
        refine node_told o.slot o.p.v (fun _ => b1) d1 (fun _ => b2) d2 hF' hS.inv (hos o hom).slot (L.told o.slot o.p.v).2 rfl (by intros; kernel_rfl) (fun ids w2 hp hf => ⟨(hos o hom).at_.fit.at_ hf.x.1.2, fun k hk => .inl (.inr hk)⟩) (by intros; kernel_rfl) (by kernel_rfl) (by kernel_rfl) (by kernel_rfl) ?_
        intro F3 hF3
        have hF5 : OwnF w (fun _ => False) (B.and (voRow a cap fs)) F3 := fun k hk => ⟨fun q => (hF3 k hk).1 (.inl q), (hF3 k hk).2⟩
        refine br_B (L.told o.slot o.p.v).2 (by kernel_rfl) (fun hb => ?_) (fun hb => br_F (decide (o.k = 0)) (by kernel_rfl) (decide_eq_false (by omega)) (hno _ F3 (by rw [told_f hb]) hS.inv.told told_next.1 told_size hF5 (fun w h => ⟨h.1.1, h.2⟩) (fun k hk => hk.elim (fun q => .inl (.inl q)) .inr) (by intros; kernel_rfl)))
        obtain ⟨L', eL'⟩ : ∃ L', L' = (L.told o.slot o.p.v).1 := ⟨_, rfl⟩
        have hdec : mlk L.de o.slot = none ∧ L'.de = mput L.de o.slot o.p.v ∧ LnInv L' ∧ L'.next = L.next ∧ L'.size ≤ L.size + 1 := ⟨openB_none (told_t hb).1, by rw [eL']; exact (told_t hb).2, by rw [eL']; exact hS.inv.told, by rw [eL']; exact told_next.1, by rw [eL']; exact told_size⟩
        rw [hb]
        refine holds_eq (by rw [← eL']) ?_
        clear hb eL'
      case' B =>
        refine br_D (p := o.k = 0) (by kernel_rfl) (fun hk0 => ?_) (fun hk0 => hno L F rfl hS.inv rfl (Nat.le_succ _) hM.own (fun w h => h) (fun k hk => hk) (by intros; kernel_rfl))
        refine node_vl (V := id) (v := o.p.v) (fun _ => #[o.p.val]) (fun b1 d1 b2 d2 => ⟨[o.p.v.k], [], [], [o.p.v.cs.length, d1, o.p.v.ns.length, d2], [b1, b2]⟩) (by intros; kernel_rfl) (fun ids w2 hp hf => cpvl_any _ _ _ _ _ w2 (hoat hf.x.1.1)) (by intros; kernel_rfl) (by kernel_rfl) (by kernel_rfl) (by intros; kernel_rfl) (fun _ _ _ _ => oneNil) ?_
        intro b1 d1 b2 d2 hfr
        refine holds_eq (HX.and_right_comm _ _ _) ?_
        have hF' : OwnF w (fun _ => False) ((B.and (voRow a cap fs)).and (vlX o.p.v b1 b2)) F := fun k hk => ⟨fun q => q.elim (hM.own k hk).1 fun q => (hfr k q).2 (.inr hk), (hM.own k hk).2⟩
        refine node_voted o.node o.slot o.r o.n o.p.v (fun _ => b1) d1 (fun _ => b2) d2 hF' hS.inv (hos o hom).slot (L.voted o.node o.slot o.r o.n o.p.v).2 rfl (by intros; kernel_rfl) (fun ids w2 hp hf => ⟨(hos o hom).at_.fit.at_ hf.x.1.2, fun k hk => .inl (.inr hk)⟩) (by intros; kernel_rfl) (by kernel_rfl) (by kernel_rfl) (by kernel_rfl) ?_
        intro F3 hF3
        have hF5 : OwnF w (fun _ => False) (B.and (voRow a cap fs)) F3 := fun k hk => ⟨fun q => (hF3 k hk).1 (.inl q), (hF3 k hk).2⟩
        refine br_B (L.voted o.node o.slot o.r o.n o.p.v).2 (by kernel_rfl) (fun hb => ?_) (fun hb => hno _ F3 (voted_f hb) hS.inv.voted voted_next.1 voted_size hF5 (fun w h => ⟨h.1.1, h.2⟩) (fun k hk => hk.elim (fun q => .inl (.inl q)) .inr) (by intros; kernel_rfl))
        obtain ⟨L', eL'⟩ : ∃ L', L' = (L.voted o.node o.slot o.r o.n o.p.v).1 := ⟨_, rfl⟩
        have hdec : mlk L.de o.slot = none ∧ L'.de = mput L.de o.slot o.p.v ∧ LnInv L' ∧ L'.next = L.next ∧ L'.size ≤ L.size + 1 := ⟨openB_none (voted_t hb).1, by rw [eL']; exact (voted_t hb).2, by rw [eL']; exact hS.inv.voted, by rw [eL']; exact voted_next.1, by rw [eL']; exact voted_size⟩
        rw [hb]
        refine holds_eq (by rw [← eL']) ?_
        clear hb eL'
      all_goals
        obtain ⟨z1, z2, z3, z4, z5⟩ := hdec
        obtain ⟨hfs', hne⟩ := fs_add (L' := L') hS.fi z1 z2
        refine ⟨fun vs hx' n => ∃ j : Nat, n = fs.length - j ∧ j ≤ fs.length ∧ vs = ⟨[(j : Int)], [], [], [], []⟩ ∧ hx' = (((B.and (voRow a cap fs)).and (vlX o.p.v b1 b2)).and (lnX F3 nb L')), fun ids w2 hp hf => ⟨_, fs.length, ⟨hf.x, hf.sep⟩, 0, rfl, Nat.zero_le _, by kernel_rfl, rfl⟩, ?_⟩
        rintro vs hx' n hcnt ⟨j, rfl, hj, rfl, rfl⟩
        refine br_D (p := (j : Int) < (fs.length : Int)) (by kernel_rfl) (fun hjk => ?_) (fun hjk => ?_)
        · have hjk : j < fs.length := by omega
          obtain ⟨f, hf0⟩ : ∃ b, fs[j]? = some b := ⟨_, List.getElem?_eq_getElem hjk⟩
          have hfm := List.mem_of_getElem? hf0
          have hne' := hne f hfm
          have hlen := hS.len
          have hrow : fs ≠ [] := List.ne_nil_of_mem hfm
          have hwk : IntKind.i64.wrap ((j : Int) + 1) = ((j + 1 : Nat) : Int) := by rw [wrap_i64 (by omega)]; omega
          refine need_k (a.isSome = true ∧ 0 ≤ (j : Int) ∧ (j : Int) < (fs.length : Int)) (by kernel_rfl) ⟨hM.sc (hM.sn hrow), by omega, by omega⟩ ?_
          refine node_ldk ⟨[f.slot, f.r, f.n, f.p.v.k], [], [], [f.p.v.cs.length, f.p.c1, f.p.v.ns.length, f.p.c2], [f.p.a1, f.p.a2]⟩ (fun _ => .pointer (some (((a.getD ⟨0, 0, none⟩).add (j * 6)).add 0))) f.vote (by intros; kernel_rfl) (by intros; kernel_rfl) (fun ids w2 hp hf => (vo_elt hf.x.1.1.2 hf0).2) (by kernel_rfl) oneNil ?_
          refine br_F (decide (f.slot = o.slot)) (by kernel_rfl) (decide_eq_false hne') ?_
          refine again_V ⟨[((j + 1 : Nat) : Int)], [], [], [], []⟩ rfl (fun ids => by rw [← hwk]; kernel_rfl) _ (fun w2 ids hf => ⟨hf.x, hf.sep⟩) ⟨fs.length - (j + 1), by omega, j + 1, rfl, by omega, rfl, rfl⟩
        · refine holds_eq (and_rot _ _ _ _) ?_
          have hrest : ∀ q, cap ≠ 0 → abk a = some q → ¬ ((B.and (vlX o.p.v b1 b2)).and (lnX F3 nb L')).F q := fun q q1 q2 z => by
            rcases z with (z | z) | z
            · exact (hM.row q q1 q2).2 z
            · exact (hfr q z).2 (.inl (.inr ⟨q1, q2⟩))
            · exact (hF5 q z).1 (.inr ⟨q1, q2⟩)
          have hlen := hS.len
          refine node_pushs (e := 34) (sz := 6) rfl Try.underlying27 info_vote rfl (by decide) a fs.length cap (vcells fs) o.vote 3 (by intros; kernel_rfl) (by intros; kernel_rfl) rfl (by intros; kernel_rfl) rfl (vote_one o) hrest (fun q q1 q2 => .inl (hM.row q q1 q2).1) (by unfold maxLen; omega) (by omega) (by intros; kernel_rfl) (by kernel_rfl) (by kernel_rfl) (by intros; kernel_rfl) ?_
          intro a' cap' hc' hr' hor'
          refine again_V ⟨[], [], [], [fs.length + 1, cap'], [a']⟩ rfl (by intros; kernel_rfl) ((B.and (voRow a' cap' (fs ++ [o]))).and (lnX F3 nb L')) (fun w2 ids hf => ⟨⟨⟨hf.x.1.1.1, ?_⟩, hf.x.1.2⟩, fun q hq => hq.elim (fun z => z.elim (fun z => hf.sep q (.inl (.inl (.inl z)))) fun z => hf.sep q (.inr z)) fun z => hf.sep q (.inl (.inr z))⟩) ⟨L', fs ++ [o], a', cap', F3, by rw [List.length_append]; rfl, ⟨z3, hfs', fun g hg => (List.mem_append.1 hg).elim (hS.sub g) fun e => by rw [List.mem_singleton.1 e]; exact hom, z4.trans hS.next, by have := hS.size; omega, by rw [List.length_append]; have := hS.len; simp only [List.length_cons, List.length_nil]; omega⟩, ⟨fun q q1 q2 => ⟨?_, fun z => hr' q q2 (.inl (.inl z))⟩, fun _ => ?_, fun _ => hc', fun q hq => ⟨fun z => z.elim (fun z => (hF5 q hq).1 (.inl z)) fun z => hr' q z.2 (.inr hq), (hF5 q hq).2⟩⟩, rfl⟩
          · have := hf.x.2
            rw [vo_snoc] at this
            show (HX.rw 6 34 a' (fs ++ [o]).length cap' (vcells (fs ++ [o]))).X w2
            rw [List.length_append]; exact this
          · rcases hor' with ⟨r1, r2⟩ | ⟨g, r1, r2, _⟩
            · exact (hM.row q r1 (by rw [← r2]; exact q2)).1
            · rw [r1] at q2; cases q2; exact r2
          · rcases hor' with ⟨r1, r2⟩ | ⟨g, r1, r2, _⟩
            · have := hM.sc r1
              obtain ⟨y, hy⟩ := Option.isSome_iff_exists.1 this
              rw [hy] at r2
              cases a' with
              | none => cases r2
              | some y' => rfl
            · cases a' with
              | none => cases r1
              | some y' => rfl
    · rintro vs hx' hcnt2 ⟨L2, fs2, a2, cap2, F2, rfl, hS2, hM2, rfl⟩
      clear hM hS hcnt hcnt2 hoat s1 q1
      obtain ⟨v, eb⟩ : ∃ v, L2.known L2.next = (v, (mlk L2.de L2.next).isSome) := ⟨_, rfl⟩
      obtain ⟨b, hb⟩ : ∃ b, (mlk L2.de L2.next).isSome = b := ⟨_, rfl⟩
      rw [hb] at eb
      have hnx := hS2.next
      have n1 := hS2.inv.next1
      have n2 := hS2.inv.next2
      refine node_lnext hM2.own v b eb (by intros; kernel_rfl) (by intros; kernel_rfl) (by kernel_rfl) (by kernel_rfl) (by intros; kernel_rfl) ?_
      intro b1 d1 b2 d2 hfr hown2
      refine br_F (L2.next != want) (by kernel_rfl) (by rw [hnx]; simp) ?_
      have hwi : IntKind.i64.wrap ((i : Int) + 1) = ((i + 1 : Nat) : Int) := by rw [wrap_i64 (by omega)]; omega
      have hend : ∀ {m : Mem} {ρ : Env} {S : Stack} {es : Vec} (L' : Ln) (F' : Nat → Prop) (wn : Int), lkup 7 S = some (fun vs' hx'' => ∃ n', n' < 100 - i ∧ OrI w B nb os vs' hx'' n') → LnInv L' → L'.de = L2.de → L'.next = wn → L'.size = L2.size → OwnF w (fun _ => False) (B.and (voRow a2 cap2 fs2)) F' → (∀ ids, es.den ρ ids = ⟨[wn, ((i + 1 : Nat) : Int)], [], [], [fs2.length, cap2], [a2]⟩) → (Tree.again 7 es m).holds ⟨Try.prog, w, fun _ => False, PureAt w (.bool true)⟩ ρ [] (((B.and (voRow a2 cap2 fs2)).and (vlX v b1 b2)).and (lnX F' nb L')) S := fun {m ρ S es} L' F' wn hlk hi' hde hn' hsz hF' hes =>
        again_V ⟨[wn, ((i + 1 : Nat) : Int)], [], [], [fs2.length, cap2], [a2]⟩ hlk hes ((B.and (voRow a2 cap2 fs2)).and (lnX F' nb L')) (fun w2 ids hf => ⟨⟨hf.x.1.1, hf.x.2⟩, fun q hq => hf.sep q (hq.elim (fun z => .inl (.inl z)) .inr)⟩) ⟨100 - (i + 1), by omega, i + 1, wn, L', fs2, a2, cap2, F', rfl, by omega, rfl, ⟨hi', fs_same hS2.fi hde, hS2.sub, hn', by have := hS2.size; omega, hS2.len⟩, ⟨hM2.row, hM2.sc, hM2.sn, hF'⟩, rfl⟩
      by_cases hbb : b = false
      · refine br_T (!b) (by kernel_rfl) (by rw [hbb]; rfl) ?_
        exact hend L2 F2 want rfl hS2.inv rfl hnx rfl hM2.own (fun ids => by rw [← hwi]; kernel_rfl)
      have hbb : b = true := by simpa using hbb
      refine br_F (!b) (by kernel_rfl) (by rw [hbb]; rfl) ?_
      refine ⟨fun vs hx' n => ∃ j : Nat, n = fs2.length - j ∧ j ≤ fs2.length ∧ vs = ⟨[(j : Int)], [hitB (fs2.take j) L2.next], [], [], []⟩ ∧ hx' = (((B.and (voRow a2 cap2 fs2)).and (vlX v b1 b2)).and (lnX F2 nb L2)), fun ids w2 hp hf => ⟨_, fs2.length, ⟨hf.x, hf.sep⟩, 0, rfl, Nat.zero_le _, by kernel_rfl, rfl⟩, ?_⟩
      rintro vs hx' n hcnt ⟨j, rfl, hj, rfl, rfl⟩
      obtain ⟨hit, ehit⟩ : ∃ x, x = hitB (fs2.take j) L2.next := ⟨_, rfl⟩
      rw [← ehit]
      refine br_D (p := (j : Int) < (fs2.length : Int)) (by kernel_rfl) (fun hjk => ?_) (fun hjk => ?_)
      · have hjk : j < fs2.length := by omega
        obtain ⟨f, hf0⟩ : ∃ b, fs2[j]? = some b := ⟨_, List.getElem?_eq_getElem hjk⟩
        have hfm := List.mem_of_getElem? hf0
        have hlen := hS2.len
        have hwk : IntKind.i64.wrap ((j : Int) + 1) = ((j + 1 : Nat) : Int) := by rw [wrap_i64 (by omega)]; omega
        have hst := hit_step (n := L2.next) hf0
        rw [← ehit] at hst
        refine need_k (a2.isSome = true ∧ 0 ≤ (j : Int) ∧ (j : Int) < (fs2.length : Int)) (by kernel_rfl) ⟨hM2.sc (hM2.sn (List.ne_nil_of_mem hfm)), by omega, by omega⟩ ?_
        refine node_ldk ⟨[f.slot, f.r, f.n, f.p.v.k], [], [], [f.p.v.cs.length, f.p.c1, f.p.v.ns.length, f.p.c2], [f.p.a1, f.p.a2]⟩ (fun _ => .pointer (some (((a2.getD ⟨0, 0, none⟩).add (j * 6)).add 0))) f.vote (by intros; kernel_rfl) (by intros; kernel_rfl) (fun ids w2 hp hf => (vo_elt hf.x.1.1.2 hf0).2) (by kernel_rfl) oneNil ?_
        have hag : ∀ {m : Mem} {ρ : Env} {S : Stack} {es : Vec} (c : Bool), hitB (fs2.take (j + 1)) L2.next = c → (∀ ids, es.den ρ ids = ⟨[IntKind.i64.wrap ((j : Int) + 1)], [c], [], [], []⟩) → (Tree.again 24 es m).holds ⟨Try.prog, w, fun _ => False, PureAt w (.bool true)⟩ ρ [] (((B.and (voRow a2 cap2 fs2)).and (vlX v b1 b2)).and (lnX F2 nb L2)) ((24, fun vs' hx'' => ∃ n', n' < fs2.length - j ∧ ∃ j : Nat, n' = fs2.length - j ∧ j ≤ fs2.length ∧ vs' = ⟨[(j : Int)], [hitB (fs2.take j) L2.next], [], [], []⟩ ∧ hx'' = (((B.and (voRow a2 cap2 fs2)).and (vlX v b1 b2)).and (lnX F2 nb L2))) :: S) := fun {m ρ S es} c hc hes =>
          again_V _ rfl hes _ (fun w2 ids hf => ⟨hf.x, hf.sep⟩) ⟨fs2.length - (j + 1), by omega, j + 1, rfl, by omega, by rw [hwk, hc], rfl⟩
        refine br_B hit (by kernel_rfl) (fun h => ?_) (fun h => ?_)
        · exact hag true (by rw [hst, h]; rfl) (by intros; kernel_rfl)
        refine br_D (p := f.slot = L2.next) (by kernel_rfl) (fun hs => ?_) (fun hs => ?_)
        · have hv : f.p.v = v := by
            have h1 := hS2.fi.2 f hfm
            have h2 : (L2.known L2.next).1 = v := by rw [eb]
            unfold Ln.known at h2
            rw [← hs, h1] at h2
            exact h2
          refine node_PI ⟨[], [true], [], [], []⟩ (fun _ => #[f.p.val, vlV v b1 d1 b2 d2]) (.bool true) (by intros; kernel_rfl) (by intros; kernel_rfl) (by kernel_rfl) (by kernel_rfl) (by kernel_rfl) oneNil (fun ids w2 hp hf => ?_) ?_
          · have hfat := sc_at (BX hf.x.1.1.1) hos (hS2.sub f hfm)
            have := samev_any f.p.v f.p.a1 f.p.c1 f.p.a2 f.p.c2 v b1 d1 b2 d2 w2 hfat ((hv ▸ hfat.fit : VlFit v).at_ hf.x.1.2)
            rw [vlSame_t hv] at this; exact this
          exact hag true (by rw [hst, h]; simp [hs]) (by intros; kernel_rfl)
        · exact hag false (by rw [hst, h]; simp [hs]) (by intros; kernel_rfl)
      · have hj2 : j = fs2.length := by omega
        have hh : hit = true := by
          rw [ehit, hj2, List.take_length]
          have h1 : (mlk L2.de L2.next).isSome = true := by rw [hb, hbb]
          obtain ⟨f, hf, e⟩ := (hS2.fi.1 L2.next).1 h1
          unfold hitB
          exact List.any_eq_true.2 ⟨f, hf, by simp [e]⟩
        refine br_F (!hit) (by kernel_rfl) (by rw [hh]; rfl) ?_
        have hps : L2.pass = ({ L2 with next := L2.next + 1 }, true) := by unfold Ln.pass; rw [if_pos (by rw [hb, hbb])]
        refine node_pass hown2 hS2.inv true (by rw [hps]) (by intros; kernel_rfl) (by intros; kernel_rfl) (by kernel_rfl) (by kernel_rfl) (by kernel_rfl) ?_
        intro F4 hF4
        refine br_F false (by kernel_rfl) rfl ?_
        exact hend L2.pass.1 F4 (want + 1) rfl hS2.inv.pass (by rw [hps]) (by rw [hps]; show L2.next + 1 = _; rw [hnx]) pass_size (fun q hq => ⟨fun z => (hF4 q hq).1 (.inl z), (hF4 q hq).2⟩) (fun ids => by rw [← hwi, ← wrap_i64 (x := want + 1) (by omega)]; kernel_rfl)
  · rintro vs hx' hcnt ⟨rfl, L, F, hinv, hsz, rfl⟩
    refine node_lsize hinv L.size rfl (by intros; kernel_rfl) (by intros; kernel_rfl) (by kernel_rfl) (by kernel_rfl) (by kernel_rfl) ?_
    refine pure_out (fun _ => id) (fun ids => ?_)
    refine Eq.trans (b := Value.bool (decide ((L.size : Int) ≤ 256))) (by kernel_rfl) ?_
    rw [decide_eq_true (by omega)]
theorem order_args (a : Option Addr) (cap : Nat) (ds : List Dat) (w : World) (h1 : Cells w a (Dat.cellsAll ds)) (h2 : ∀ d ∈ ds, d.In Try.prog w 36) (h3 : ds.length ≤ maxLen) (h4 : ds.length * Try.prog.bytesOf 36 ≤ reachBytes) : Calls Try.prog 3 #[.slice a ds.length cap] w (PureAt w (.bool true)) := by
  obtain ⟨os, e1, e2, hos⟩ := opn_ops ds h2
  rw [e2] at h1
  rw [← e1] at h3 ⊢
  refine order_walk a cap os w h1 hos ?_
  have : Try.prog.bytesOf 36 = 104 := by kernel_rfl
  rw [this] at h4
  have := reach_is
  omega
end Go.Proofs.Ythmlhnkdiafpkaa
