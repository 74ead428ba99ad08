/- LearnerKeeps. -/
import Derived.Test.YthmlhnkdiafpkaaLnO
import Derived.Test.YthmlhnkdiafpkaaLnV2
namespace Go.Proofs.Ythmlhnkdiafpkaa
open Go.ChangeShapes Go.WideShapes Go.ChangeAt Go.RowKit Go.Syn Go.Eng Go.MapKept
set_option linter.unusedVariables false
set_option linter.unusedSimpArgs false
set_option maxRecDepth 100000
structure KeS (os : List OpL) (i : Nat) (L : Ln) (fs : List OpL) : Prop where
  inv : LnInv L
  fi : FsI L fs
  sub : ∀ f ∈ fs, f ∈ os
  len : fs.length ≤ i
def KeI (w : World) (base : HX) (nb : Nat) (os : List OpL) (vs : Vals) (hx : HX) (n : Nat) : Prop := ∃ (i : Nat) (L : Ln) (fs : List OpL) (a : Option Addr) (cap : Nat) (F : Nat → Prop), n = 60 - i ∧ i ≤ 60 ∧ vs = ⟨[(i : Int)], [], [], [fs.length, cap], [a]⟩ ∧ KeS os i L fs ∧ OrM w base nb a cap fs F ∧ hx = (base.and (voRow a cap fs)).and (lnX F nb L)
def KeJ (w : World) (base : HX) (nb : Nat) (os : List OpL) (i : Nat) (vs : Vals) (hx : HX) : Prop := ∃ (L : Ln) (fs : List OpL) (a : Option Addr) (cap : Nat) (F : Nat → Prop), vs = ⟨[], [], [], [fs.length, cap], [a]⟩ ∧ KeS os i L fs ∧ OrM w base nb a cap fs F ∧ hx = (base.and (voRow a cap fs)).and (lnX F nb L)
theorem known_trim {L : Ln} {slot t : Int} {v : Vl} (h : mlk L.de slot = some v) : (L.trim t).known slot = (if min t (L.next - 1) < slot then (v, true) else (vz, false)) := by
  unfold Ln.known
  show ((mlk (above L.de _) slot).getD vz, (mlk (above L.de _) slot).isSome) = _
  rw [mlk_above, h]
  split <;> rfl
theorem known_jump {L : Ln} {slot t j : Int} {v : Vl} (h : mlk L.de slot = some v) : ((L.trim t).jump j).1.known slot = (if min t (L.next - 1) < slot ∧ (j ≤ L.next ∨ 1099511627776 < j ∨ j ≤ slot) then (v, true) else (vz, false)) := by
  unfold Ln.jump
  by_cases hj : j ≤ (L.trim t).next ∨ 1099511627776 < j
  · rw [if_pos hj, known_trim h]
    have hj : j ≤ L.next ∨ 1099511627776 < j := hj
    by_cases hm : min t (L.next - 1) < slot
    · rw [if_pos hm, if_pos ⟨hm, hj.elim .inl fun q => .inr (.inl q)⟩]
    · rw [if_neg hm, if_neg fun q => hm q.1]
  · rw [if_neg hj]
    have hj : ¬ (j ≤ L.next ∨ 1099511627776 < j) := hj
    unfold Ln.known
    show ((mlk (above (above L.de _) (j - 1)) slot).getD vz, (mlk (above (above L.de _) (j - 1)) slot).isSome) = _
    rw [mlk_above, mlk_above, h]
    by_cases hm : min t (L.next - 1) < slot
    · by_cases hs : j - 1 < slot
      · rw [if_pos hs, if_pos hm, if_pos ⟨hm, .inr (.inr (by omega))⟩]; rfl
      · rw [if_neg hs, if_neg fun q => by omega]; rfl
    · rw [if_neg hm, if_neg (c := min t (L.next - 1) < slot ∧ (j ≤ L.next ∨ 1099511627776 < j ∨ j ≤ slot)) fun q => hm q.1]
      split <;> rfl
set_option maxHeartbeats 2000000 in
theorem keeps_walk (ao : Option Addr) (co : Nat) (os : List OpL) (trim jump : Int) (w : World) (Ho : Cells w ao (ocells os)) (hos : ∀ o ∈ os, OpOk w o) (so : os.length ≤ 4611686018427387903) (ht : I64 trim) (hj : I64 jump) :
    Calls Try.prog 7 #[.slice ao os.length co, .int .i64 trim, .int .i64 jump] w (PureAt w (.bool true)) := by
  have hsc := sc_X Ho hos
  refine calls_at (tab_ok _) Try.func7 rfl tLKeeps (ρ := ⟨[trim, jump], [], [], [os.length, co], [ao]⟩) (ids := []) (hx := scX ao os) rfl (Facts.initq rfl oneNil hsc (sc_lt hsc)) ?_
  obtain ⟨B, eB⟩ : ∃ x, x = scX ao os := ⟨_, rfl⟩
  rw [← eB]
  have BX : ∀ {w}, B.X w → (scX ao os).X w := fun h => by rw [eB] at h; exact h
  have BF : ∀ {k}, (scX ao os).F k → B.F k := fun h => by rw [eB]; exact h
  refine node_P ⟨[], [true], [], [], []⟩ #[] (.bool true) (by intros; kernel_rfl) (by intros; kernel_rfl) (by kernel_rfl) (by kernel_rfl) (by kernel_rfl) oneNil (fun ids w2 hp hf => head_any w2) ?_
  refine br_F false (by kernel_rfl) rfl ?_
  refine node_lnew (fun ids => some ⟨idAt ids 0, 0, none⟩) 3 [1, 2, 3] 1 (by intros; kernel_rfl) (fun ids w2 hp hf => ints_blk hf 0 _ _ [1, 2, 3] rfl (by kernel_rfl) (by decide) i123) ⟨ok123, by omega, by omega⟩ (by intros; kernel_rfl) (by kernel_rfl) (by kernel_rfl) (by intros; kernel_rfl) ?_
  intro nb F0 hown0
  refine ⟨KeJ w B nb os 60, ?_, ?_⟩
  · refine ⟨KeI w B nb os, fun ids w2 hp hf => ⟨(B.and (voRow (some ⟨idAt ids 1, 0, none⟩) 0 [])).and (lnX F0 nb (Ln.new [1, 2, 3] 1)), 60, ⟨⟨⟨hf.x.1, HX.rw_nil _ _ _ _⟩, hf.x.2⟩, fun k hk => hk.elim (fun q => q.elim (fun q => hf.sep k (.inl q)) fun q => absurd rfl q.1) fun q => hf.sep k (.inr q)⟩, 0, Ln.new [1, 2, 3] 1, [], some ⟨idAt ids 1, 0, none⟩, 0, F0, rfl, by omega, by kernel_rfl, ⟨inv123, fs_new, (fun f hf => by cases hf), Nat.le_refl _⟩, ⟨fun k h => absurd rfl h, fun h => absurd rfl h, fun h => absurd rfl h, fun k hk => ⟨fun q => q.elim (hown0 k hk).1 fun q => absurd rfl q.1, (hown0 k hk).2⟩⟩, rfl⟩, ?_⟩
    rintro vs hx' n hcnt ⟨i, L, fs, a, cap, F, rfl, hi, rfl, hS, hM, rfl⟩
    refine holds_env (ρ' := ⟨[trim, jump, (i : Int)], [true], [.pointer (some ⟨nb, 0, none⟩)], [os.length, co, fs.length, cap], [ao, a]⟩) rfl ?_
    have hout : ∀ {m : Mem} {ρ : Env} {S : Stack}, (∀ ids, Vec.den ρ ids ⟨[], [], [], [.var 2, .var 3], [.var 1]⟩ = ⟨[], [], [], [fs.length, cap], [a]⟩) → (Tree.again 13 ⟨[], [], [], [.var 2, .var 3], [.var 1]⟩ m).holds ⟨Try.prog, w, fun _ => False, PureAt w (.bool true)⟩ ρ [] ((B.and (voRow a cap fs)).and (lnX F nb L)) ((6, fun vs' hx'' => ∃ n', n' < 60 - i ∧ KeI w B nb os vs' hx'' n') :: (13, KeJ w B nb os 60) :: S) := fun {m ρ S} hv =>
      again_V ⟨[], [], [], [fs.length, cap], [a]⟩ rfl hv _ (fun w2 ids hf => ⟨hf.x, hf.sep⟩) ⟨L, fs, a, cap, F, rfl, ⟨hS.inv, hS.fi, hS.sub, Nat.le_trans hS.len hi⟩, hM, rfl⟩
    refine br_D (p := (i : Int) < (os.length : Int)) (by kernel_rfl) (fun hk => ?_) (fun hk => hout (by intros; kernel_rfl))
    refine br_D (p := (i : Int) < 60) (by kernel_rfl) (fun hk2 => ?_) (fun hk => hout (by intros; kernel_rfl))
    clear hout
    have hk : i < os.length := by omega
    obtain ⟨o, ho⟩ : ∃ b, os[i]? = some b := ⟨_, List.getElem?_eq_getElem hk⟩
    have hom := List.mem_of_getElem? ho
    obtain ⟨s1, q1⟩ := oc_elt Ho ho
    refine need_k (ao.isSome = true ∧ 0 ≤ (i : Int) ∧ (i : Int) < (os.length : Int)) (by kernel_rfl) ⟨s1, by omega, by omega⟩ ?_
    refine node_ld0 (k := ⟨3, 1, 1, 4, 2⟩) ⟨[o.k, o.node, o.slot, o.r, o.n, o.p.v.k, o.m], [], [], [o.p.v.cs.length, o.p.c1, o.p.v.ns.length, o.p.c2], [o.p.a1, o.p.a2]⟩ (.pointer (some (((ao.getD ⟨0, 0, none⟩).add (i * 9)).add 0))) o.cells (by intros; kernel_rfl) (by intros; kernel_rfl) q1 ⟨by kernel_rfl, (fun v hv => by simp only [List.mem_singleton] at hv; subst hv; rfl)⟩ (by kernel_rfl) oneNil ?_
    have hoat : ∀ {w}, B.X w → VlAt w o.p.v o.p.a1 o.p.a2 := fun h => sc_at (BX h) hos hom
    have hwi : IntKind.i64.wrap ((i : Int) + 1) = ((i + 1 : Nat) : Int) := by rw [wrap_i64 (by omega)]; omega
    refine holds_env (ρ' := ⟨[trim, jump, (i : Int), o.k, o.node, o.slot, o.r, o.n, o.p.v.k, o.m], [true], [.pointer (some ⟨nb, 0, none⟩)], [os.length, co, fs.length, cap, o.p.v.cs.length, o.p.c1, o.p.v.ns.length, o.p.c2], [ao, a, o.p.a1, o.p.a2]⟩) rfl ?_
    refine ⟨KeJ w B nb os (i + 1), ?_, ?_⟩
    · -- nothing was decided
      have hno : ∀ {m : Mem} {ρ : Env} {hx : HX} {S : Stack} (L' : Ln) (F' : Nat → Prop), L'.de = L.de → LnInv L' → OwnF w (fun _ => False) (B.and (voRow a cap fs)) F' → (∀ w, hx.X w → ((B.and (voRow a cap fs)).and (lnX F' nb L')).X w) → (∀ k, ((B.and (voRow a cap fs)).and (lnX F' nb L')).F k → hx.F k) → (∀ ids, Vec.den ρ ids ⟨[], [], [], [.var 2, .var 3], [.var 1]⟩ = ⟨[], [], [], [fs.length, cap], [a]⟩) →
          (Tree.again 11 ⟨[], [], [], [.var 2, .var 3], [.var 1]⟩ m).holds ⟨Try.prog, w, fun _ => False, PureAt w (.bool true)⟩ ρ [] hx ((11, KeJ w B nb os (i + 1)) :: S) := fun L' F' hde hinv' hF' hX hFF hv =>
        again_V ⟨[], [], [], [fs.length, cap], [a]⟩ rfl hv _ (fun w2 ids hf => ⟨hX w2 hf.x, fun k hk => hf.sep k (hFF k hk)⟩) ⟨L', fs, a, cap, F', rfl, ⟨hinv', fs_same hS.fi hde, hS.sub, by have := hS.len; omega⟩, ⟨hM.row, hM.sc, hM.sn, hF'⟩, rfl⟩
      refine br_D (p := o.k = 1) (by kernel_rfl) (fun hk1 => ?A) (fun hk1 => ?B)
      case' A =>
        refine node_vl (V := id) (v := o.p.v) (fun _ => #[o.p.val]) (fun b1 d1 b2 d2 => ⟨[o.p.v.k], [], [], [o.p.v.cs.length, d1, o.p.v.ns.length, d2], [b1, b2]⟩) (by intros; kernel_rfl) (fun ids w2 hp hf => cpvl_any _ _ _ _ _ w2 (hoat hf.x.1.1)) (by intros; kernel_rfl) (by kernel_rfl) (by kernel_rfl) (by intros; kernel_rfl) (fun _ _ _ _ => oneNil) ?_
        intro b1 d1 b2 d2 hfr
        refine holds_eq (HX.and_right_comm _ _ _) ?_
        have hF' : OwnF w (fun _ => False) ((B.and (voRow a cap fs)).and (vlX o.p.v b1 b2)) F := fun k hk => ⟨fun q => q.elim (hM.own k hk).1 fun q => (hfr k q).2 (.inr hk), (hM.own k hk).2⟩
        refine node_told o.slot o.p.v (fun _ => b1) d1 (fun _ => b2) d2 hF' hS.inv (hos o hom).slot (L.told o.slot o.p.v).2 rfl (by intros; kernel_rfl) (fun ids w2 hp hf => ⟨(hos o hom).at_.fit.at_ hf.x.1.2, fun k hk => .inl (.inr hk)⟩) (by intros; kernel_rfl) (by kernel_rfl) (by kernel_rfl) (by kernel_rfl) ?_
        intro F3 hF3
        have hF5 : OwnF w (fun _ => False) (B.and (voRow a cap fs)) F3 := fun k hk => ⟨fun q => (hF3 k hk).1 (.inl q), (hF3 k hk).2⟩
        refine br_B (L.told o.slot o.p.v).2 (by kernel_rfl) (fun hb => ?_) (fun hb => br_F (decide (o.k = 0)) (by kernel_rfl) (decide_eq_false (by omega)) (hno _ F3 (by rw [told_f hb]) hS.inv.told hF5 (fun w h => ⟨h.1.1, h.2⟩) (fun k hk => hk.elim (fun q => .inl (.inl q)) .inr) (by intros; kernel_rfl)))
        obtain ⟨L', eL'⟩ : ∃ L', L' = (L.told o.slot o.p.v).1 := ⟨_, rfl⟩
        have hdec : mlk L.de o.slot = none ∧ L'.de = mput L.de o.slot o.p.v ∧ LnInv L' := ⟨openB_none (told_t hb).1, by rw [eL']; exact (told_t hb).2, by rw [eL']; exact hS.inv.told⟩
        rw [hb]
        refine holds_eq (by rw [← eL']) ?_
        clear hb eL'
      case' B =>
        refine br_D (p := o.k = 0) (by kernel_rfl) (fun hk0 => ?_) (fun hk0 => hno L F rfl hS.inv hM.own (fun w h => h) (fun k hk => hk) (by intros; kernel_rfl))
        refine node_vl (V := id) (v := o.p.v) (fun _ => #[o.p.val]) (fun b1 d1 b2 d2 => ⟨[o.p.v.k], [], [], [o.p.v.cs.length, d1, o.p.v.ns.length, d2], [b1, b2]⟩) (by intros; kernel_rfl) (fun ids w2 hp hf => cpvl_any _ _ _ _ _ w2 (hoat hf.x.1.1)) (by intros; kernel_rfl) (by kernel_rfl) (by kernel_rfl) (by intros; kernel_rfl) (fun _ _ _ _ => oneNil) ?_
        intro b1 d1 b2 d2 hfr
        refine holds_eq (HX.and_right_comm _ _ _) ?_
        have hF' : OwnF w (fun _ => False) ((B.and (voRow a cap fs)).and (vlX o.p.v b1 b2)) F := fun k hk => ⟨fun q => q.elim (hM.own k hk).1 fun q => (hfr k q).2 (.inr hk), (hM.own k hk).2⟩
        refine node_voted o.node o.slot o.r o.n o.p.v (fun _ => b1) d1 (fun _ => b2) d2 hF' hS.inv (hos o hom).slot (L.voted o.node o.slot o.r o.n o.p.v).2 rfl (by intros; kernel_rfl) (fun ids w2 hp hf => ⟨(hos o hom).at_.fit.at_ hf.x.1.2, fun k hk => .inl (.inr hk)⟩) (by intros; kernel_rfl) (by kernel_rfl) (by kernel_rfl) (by kernel_rfl) ?_
        intro F3 hF3
        have hF5 : OwnF w (fun _ => False) (B.and (voRow a cap fs)) F3 := fun k hk => ⟨fun q => (hF3 k hk).1 (.inl q), (hF3 k hk).2⟩
        refine br_B (L.voted o.node o.slot o.r o.n o.p.v).2 (by kernel_rfl) (fun hb => ?_) (fun hb => hno _ F3 (voted_f hb) hS.inv.voted hF5 (fun w h => ⟨h.1.1, h.2⟩) (fun k hk => hk.elim (fun q => .inl (.inl q)) .inr) (by intros; kernel_rfl))
        obtain ⟨L', eL'⟩ : ∃ L', L' = (L.voted o.node o.slot o.r o.n o.p.v).1 := ⟨_, rfl⟩
        have hdec : mlk L.de o.slot = none ∧ L'.de = mput L.de o.slot o.p.v ∧ LnInv L' := ⟨openB_none (voted_t hb).1, by rw [eL']; exact (voted_t hb).2, by rw [eL']; exact hS.inv.voted⟩
        rw [hb]
        refine holds_eq (by rw [← eL']) ?_
        clear hb eL'
      all_goals
        obtain ⟨z1, z2, z3⟩ := hdec
        obtain ⟨hfs', hne⟩ := fs_add (L' := L') hS.fi z1 z2
        refine holds_eq (and_rot _ _ _ _) ?_
        have hrest : ∀ q, cap ≠ 0 → abk a = some q → ¬ ((B.and (vlX o.p.v b1 b2)).and (lnX F3 nb L')).F q := fun q q1 q2 z => by
          rcases z with (z | z) | z
          · exact (hM.row q q1 q2).2 z
          · exact (hfr q z).2 (.inl (.inr ⟨q1, q2⟩))
          · exact (hF5 q z).1 (.inr ⟨q1, q2⟩)
        have hlen := hS.len
        refine node_pushs (e := 34) (sz := 6) rfl Try.underlying27 info_vote rfl (by decide) a fs.length cap (vcells fs) o.vote 3 (by intros; kernel_rfl) (by intros; kernel_rfl) rfl (by intros; kernel_rfl) rfl (vote_one o) hrest (fun q q1 q2 => .inl (hM.row q q1 q2).1) (by unfold maxLen; omega) (by omega) (by intros; kernel_rfl) (by kernel_rfl) (by kernel_rfl) (by intros; kernel_rfl) ?_
        intro a' cap' hc' hr' hor'
        refine again_V ⟨[], [], [], [fs.length + 1, cap'], [a']⟩ rfl (by intros; kernel_rfl) ((B.and (voRow a' cap' (fs ++ [o]))).and (lnX F3 nb L')) (fun w2 ids hf => ⟨⟨⟨hf.x.1.1.1, ?_⟩, hf.x.1.2⟩, fun q hq => hq.elim (fun z => z.elim (fun z => hf.sep q (.inl (.inl (.inl z)))) fun z => hf.sep q (.inr z)) fun z => hf.sep q (.inl (.inr z))⟩) ⟨L', fs ++ [o], a', cap', F3, by rw [List.length_append]; rfl, ⟨z3, hfs', fun g hg => (List.mem_append.1 hg).elim (hS.sub g) fun e => by rw [List.mem_singleton.1 e]; exact hom, by rw [List.length_append]; have := hS.len; simp only [List.length_cons, List.length_nil]; omega⟩, ⟨fun q q1 q2 => ⟨?_, fun z => hr' q q2 (.inl (.inl z))⟩, fun _ => ?_, fun _ => hc', fun q hq => ⟨fun z => z.elim (fun z => (hF5 q hq).1 (.inl z)) fun z => hr' q z.2 (.inr hq), (hF5 q hq).2⟩⟩, rfl⟩
        · have := hf.x.2
          rw [vo_snoc] at this
          show (HX.rw 6 34 a' (fs ++ [o]).length cap' (vcells (fs ++ [o]))).X w2
          rw [List.length_append]; exact this
        · rcases hor' with ⟨r1, r2⟩ | ⟨g, r1, r2, _⟩
          · exact (hM.row q r1 (by rw [← r2]; exact q2)).1
          · rw [r1] at q2; cases q2; exact r2
        · rcases hor' with ⟨r1, r2⟩ | ⟨g, r1, r2, _⟩
          · have := hM.sc r1
            obtain ⟨y, hy⟩ := Option.isSome_iff_exists.1 this
            rw [hy] at r2
            cases a' with
            | none => cases r2
            | some y' => rfl
          · cases a' with
            | none => cases r1
            | some y' => rfl
    · rintro vs hx' hcnt2 ⟨L2, fs2, a2, cap2, F2, rfl, hS2, hM2, rfl⟩
      have hend : ∀ {m : Mem} {ρ : Env} {S : Stack} (L' : Ln) (F' : Nat → Prop), LnInv L' → L'.de = L2.de → OwnF w (fun _ => False) (B.and (voRow a2 cap2 fs2)) F' → (∀ ids, Vec.den ρ ids ⟨[.op .add .i64 (.var 2) (.lit 1)], [], [], [.var 8, .var 9], [.var 4]⟩ = ⟨[IntKind.i64.wrap ((i : Int) + 1)], [], [], [fs2.length, cap2], [a2]⟩) → (Tree.again 6 ⟨[.op .add .i64 (.var 2) (.lit 1)], [], [], [.var 8, .var 9], [.var 4]⟩ m).holds ⟨Try.prog, w, fun _ => False, PureAt w (.bool true)⟩ ρ [] ((B.and (voRow a2 cap2 fs2)).and (lnX F' nb L')) ((6, fun vs' hx'' => ∃ n', n' < 60 - i ∧ KeI w B nb os vs' hx'' n') :: S) := fun {m ρ S} L' F' hi' hde hF' hes =>
        again_V _ rfl hes _ (fun w2 ids hf => ⟨hf.x, hf.sep⟩) ⟨60 - (i + 1), by omega, i + 1, L', fs2, a2, cap2, F', rfl, by omega, by rw [hwi], ⟨hi', fs_same hS2.fi hde, hS2.sub, hS2.len⟩, ⟨hM2.row, hM2.sc, hM2.sn, hF'⟩, rfl⟩
      refine br_D (p := o.k = 2) (by kernel_rfl) (fun hk2 => ?_) (fun hk2 => hend L2 F2 hS2.inv rfl hM2.own (by intros; kernel_rfl))
      refine node_pass hM2.own hS2.inv L2.pass.2 rfl (by intros; kernel_rfl) (by intros; kernel_rfl) (by kernel_rfl) (by kernel_rfl) (by kernel_rfl) ?_
      intro F3 hF3
      exact hend L2.pass.1 F3 hS2.inv.pass (by unfold Ln.pass; split <;> rfl) hF3 (by intros; kernel_rfl)
  · rintro vs hx' hcnt ⟨L, fs, a, cap, F, rfl, hS, hM, rfl⟩
    refine holds_env (ρ' := ⟨[trim, jump], [true], [.pointer (some ⟨nb, 0, none⟩)], [os.length, co, fs.length, cap], [ao, a]⟩) rfl ?_
    have hlen := hS.len
    have n1 := hS.inv.next1
    have n2 := hS.inv.next2
    obtain ⟨v0, b0, ev⟩ : ∃ v b, L.known L.next = (v, b) := ⟨_, _, rfl⟩
    refine node_lnext hM.own v0 b0 ev (by intros; kernel_rfl) (by intros; kernel_rfl) (by kernel_rfl) (by kernel_rfl) (by intros; kernel_rfl) ?_
    intro b1 d1 b2 d2 hfr hown2
    obtain ⟨R, eR⟩ : ∃ x, x = (B.and (voRow a cap fs)).and (vlX v0 b1 b2) := ⟨_, rfl⟩
    rw [← eR] at hown2 ⊢
    have RB : ∀ {w}, R.X w → B.X w := fun h => by rw [eR] at h; exact h.1.1
    have RV : ∀ {w}, R.X w → (voRow a cap fs).X w := fun h => by rw [eR] at h; exact h.1.2
    refine node_trim trim hown2 hS.inv (by intros; kernel_rfl) (by intros; kernel_rfl) (by kernel_rfl) (by kernel_rfl) (by kernel_rfl) ?_
    intro F3 hF3
    obtain ⟨L3, eL3⟩ : ∃ x, x = L.trim trim := ⟨_, rfl⟩
    have i3 : LnInv L3 := by rw [eL3]; exact hS.inv.trim
    have nx3 : L3.next = L.next := by rw [eL3]; rfl
    rw [← eL3]
    refine ⟨fun vs hx' n => ∃ j : Nat, n = fs.length - j ∧ j ≤ fs.length ∧ vs = ⟨[(j : Int)], [], [], [], []⟩ ∧ hx' = R.and (lnX F3 nb L3), fun ids w2 hp hf => ⟨_, fs.length, ⟨hf.x, hf.sep⟩, 0, rfl, Nat.zero_le _, by kernel_rfl, rfl⟩, ?_⟩
    rintro vs hx' n hcnt ⟨j, rfl, hjl, rfl, rfl⟩
    refine holds_env (ρ' := ⟨[trim, jump, L.next, v0.k, (j : Int)], [true, b0], [.pointer (some ⟨nb, 0, none⟩)], [os.length, co, fs.length, cap, v0.cs.length, d1, v0.ns.length, d2], [ao, a, b1, b2]⟩) rfl ?_
    refine br_D (p := (j : Int) < (fs.length : Int)) (by kernel_rfl) (fun hjk => ?_) (fun hjk => ?_)
    · have hjk : j < fs.length := by omega
      obtain ⟨f, hf0⟩ : ∃ b, fs[j]? = some b := ⟨_, List.getElem?_eq_getElem hjk⟩
      have hfm := List.mem_of_getElem? hf0
      have hwk : IntKind.i64.wrap ((j : Int) + 1) = ((j + 1 : Nat) : Int) := by rw [wrap_i64 (by omega)]; omega
      refine need_k (a.isSome = true ∧ 0 ≤ (j : Int) ∧ (j : Int) < (fs.length : Int)) (by kernel_rfl) ⟨hM.sc (hM.sn (List.ne_nil_of_mem hfm)), by omega, by omega⟩ ?_
      refine node_ldk ⟨[f.slot, f.r, f.n, f.p.v.k], [], [], [f.p.v.cs.length, f.p.c1, f.p.v.ns.length, f.p.c2], [f.p.a1, f.p.a2]⟩ (fun _ => .pointer (some (((a.getD ⟨0, 0, none⟩).add (j * 6)).add 0))) f.vote (by intros; kernel_rfl) (by intros; kernel_rfl) (fun ids w2 hp hf => (vo_elt (RV hf.x.1) hf0).2) (by kernel_rfl) oneNil ?_
      have hfv := hS.fi.2 f hfm
      have hkn := known_trim (t := trim) hfv
      rw [← eL3] at hkn
      have hag : ∀ {m : Mem} {ρ : Env} {S : Stack} {es : Vec} {v : Vl} {e1 e2 : Option Addr}, (∀ ids, es.den ρ ids = ⟨[IntKind.i64.wrap ((j : Int) + 1)], [], [], [], []⟩) → (Tree.again 16 es m).holds ⟨Try.prog, w, fun _ => False, PureAt w (.bool true)⟩ ρ [] ((R.and (vlX v e1 e2)).and (lnX F3 nb L3)) ((16, fun vs' hx'' => ∃ n', n' < fs.length - j ∧ ∃ j : Nat, n' = fs.length - j ∧ j ≤ fs.length ∧ vs' = ⟨[(j : Int)], [], [], [], []⟩ ∧ hx'' = R.and (lnX F3 nb L3)) :: S) := fun {m ρ S es v e1 e2} hes =>
        again_V _ rfl hes (R.and (lnX F3 nb L3)) (fun w2 ids hf => ⟨⟨hf.x.1.1, hf.x.2⟩, fun q hq => hf.sep q (hq.elim (fun z => .inl (.inl z)) .inr)⟩) ⟨fs.length - (j + 1), by omega, j + 1, rfl, by omega, by rw [hwk], rfl⟩
      by_cases hm : min trim (L.next - 1) < f.slot
      · rw [if_pos hm] at hkn
        refine node_known f.slot hF3 f.p.v true hkn (by intros; kernel_rfl) (by intros; kernel_rfl) (by kernel_rfl) (by kernel_rfl) (by intros; kernel_rfl) ?_
        intro e1 g1 e2 g2 hfr3 hown3
        have hsame : ∀ {m : Mem} {ids : List Nat} {w2 : World} {ρ : Env} , Facts ⟨Try.prog, w, fun _ => False, PureAt w (.bool true)⟩ m ρ ids ((R.and (vlX f.p.v e1 e2)).and (lnX F3 nb L3)) w2 → Calls Try.prog 14 #[vlV f.p.v e1 g1 e2 g2, f.p.val] w2 (PureAt w2 (.bool true)) := fun {m ids w2 ρ} hf => by
          have hfat := sc_at (BX (RB hf.x.1.1)) hos (hS.sub f hfm)
          have := samev_any f.p.v e1 g1 e2 g2 f.p.v f.p.a1 f.p.c1 f.p.a2 f.p.c2 w2 (hfat.fit.at_ hf.x.1.2) hfat
          rw [vlSame_t rfl] at this; exact this
        refine br_D (p := f.slot ≤ trim) (by kernel_rfl) (fun hs => ?_) (fun hs => ?_)
        · refine br_F (true == decide (f.slot < L.next)) (by kernel_rfl) (by rw [decide_eq_false (by omega)]; rfl) ?_
          refine br_T true (by kernel_rfl) rfl ?_
          refine node_PI ⟨[], [true], [], [], []⟩ (fun _ => #[vlV f.p.v e1 g1 e2 g2, f.p.val]) (.bool true) (by intros; kernel_rfl) (by intros; kernel_rfl) (by kernel_rfl) (by kernel_rfl) (by kernel_rfl) oneNil (fun ids w2 hp hf => hsame hf) ?_
          refine br_F false (by kernel_rfl) rfl ?_
          exact hag (by intros; kernel_rfl)
        · refine br_F false (by kernel_rfl) rfl ?_
          refine br_T true (by kernel_rfl) rfl ?_
          refine node_PI ⟨[], [true], [], [], []⟩ (fun _ => #[vlV f.p.v e1 g1 e2 g2, f.p.val]) (.bool true) (by intros; kernel_rfl) (by intros; kernel_rfl) (by kernel_rfl) (by kernel_rfl) (by kernel_rfl) oneNil (fun ids w2 hp hf => hsame hf) ?_
          refine br_F false (by kernel_rfl) rfl ?_
          exact hag (by intros; kernel_rfl)
      · rw [if_neg hm] at hkn
        refine node_known f.slot hF3 vz false hkn (by intros; kernel_rfl) (by intros; kernel_rfl) (by kernel_rfl) (by kernel_rfl) (by intros; kernel_rfl) ?_
        intro e1 g1 e2 g2 hfr3 hown3
        refine br_T (decide (f.slot ≤ trim)) (by kernel_rfl) (decide_eq_true (by omega)) ?_
        refine br_F (false == decide (f.slot < L.next)) (by kernel_rfl) (by rw [decide_eq_true (by omega)]; rfl) ?_
        refine br_F false (by kernel_rfl) rfl ?_
        exact hag (by intros; kernel_rfl)
    · have hjj : j = fs.length := by omega
      obtain ⟨L4, eL4⟩ : ∃ x, x = (L3.jump jump).1 := ⟨_, rfl⟩
      have i4 : LnInv L4 := by rw [eL4]; exact i3.jump
      have hj2 : (L3.jump jump).2 = decide (L.next < jump ∧ jump ≤ 1099511627776) := by
        unfold Ln.jump
        rw [nx3]
        split
        · rw [decide_eq_false (by omega)]
        · rw [decide_eq_true (by omega)]
      have hnx4 : L4.next = if L.next < jump ∧ jump ≤ 1099511627776 then jump else L.next := by
        rw [eL4]; unfold Ln.jump
        rw [nx3]
        split
        · rw [if_neg (by omega)]; exact nx3
        · rw [if_pos (by omega)]
      refine ⟨fun vs hx' => vs = Vals.nil ∧ ∃ F4, OwnF w (fun _ => False) R F4 ∧ hx' = R.and (lnX F4 nb L4), ?_, ?_⟩
      · refine node_jump jump hF3 i3 (decide (L.next < jump ∧ jump ≤ 1099511627776)) hj2 (by intros; kernel_rfl) (by intros; kernel_rfl) (by kernel_rfl) (by kernel_rfl) (by kernel_rfl) ?_
        intro F4 hF4
        rw [← eL4]
        have hag : ∀ {m : Mem} {ρ : Env} {S : Stack}, (Tree.again 25 ⟨[], [], [], [], []⟩ m).holds ⟨Try.prog, w, fun _ => False, PureAt w (.bool true)⟩ ρ [] (R.and (lnX F4 nb L4)) ((25, fun vs hx' => vs = Vals.nil ∧ ∃ F4, OwnF w (fun _ => False) R F4 ∧ hx' = R.and (lnX F4 nb L4)) :: S) := fun {m ρ S} =>
          again_V Vals.nil rfl (by intros; kernel_rfl) _ (fun w2 ids hf => ⟨hf.x, hf.sep⟩) ⟨rfl, F4, hF4, rfl⟩
        refine br_D (p := jump > L.next) (by kernel_rfl) (fun h1 => ?_) (fun h1 => ?_)
        · refine br_F (!(decide (L.next < jump ∧ jump ≤ 1099511627776) == decide (jump ≤ 1099511627776))) (by kernel_rfl) ?_ hag
          by_cases h2 : jump ≤ 1099511627776
          · rw [decide_eq_true h2, decide_eq_true ⟨h1, h2⟩]; rfl
          · rw [decide_eq_false h2, decide_eq_false fun q => h2 q.2]; rfl
        · exact br_F (decide (L.next < jump ∧ jump ≤ 1099511627776)) (by kernel_rfl) (decide_eq_false fun q => h1 q.1) hag
      · rintro vs hx' hcnt2 ⟨rfl, F4, hF4, rfl⟩
        rw [Env.add_nil]
        obtain ⟨v4, b4, ev4⟩ : ∃ v b, L4.known L4.next = (v, b) := ⟨_, _, rfl⟩
        refine node_lnext hF4 v4 b4 ev4 (by intros; kernel_rfl) (by intros; kernel_rfl) (by kernel_rfl) (by kernel_rfl) (by intros; kernel_rfl) ?_
        intro e1 g1 e2 g2 hfr4 hown4
        obtain ⟨R4, eR4⟩ : ∃ x, x = R.and (vlX v4 e1 e2) := ⟨_, rfl⟩
        rw [← eR4] at hown4 ⊢
        have R4R : ∀ {w}, R4.X w → R.X w := fun h => by rw [eR4] at h; exact h.1
        refine ⟨fun vs hx' n => ∃ j : Nat, n = fs.length - j ∧ j ≤ fs.length ∧ vs = ⟨[(j : Int)], [], [], [], []⟩ ∧ hx' = R4.and (lnX F4 nb L4), fun ids w2 hp hf => ⟨_, fs.length, ⟨hf.x, hf.sep⟩, 0, rfl, Nat.zero_le _, by kernel_rfl, rfl⟩, ?_⟩
        rintro vs hx' n hcnt ⟨j, rfl, hjl, rfl, rfl⟩
        refine br_D (p := (j : Int) < (fs.length : Int)) (by kernel_rfl) (fun hjk => ?_) (fun hjk => ?_)
        · have hjk : j < fs.length := by omega
          obtain ⟨f, hf0⟩ : ∃ b, fs[j]? = some b := ⟨_, List.getElem?_eq_getElem hjk⟩
          have hfm := List.mem_of_getElem? hf0
          have hwk : IntKind.i64.wrap ((j : Int) + 1) = ((j + 1 : Nat) : Int) := by rw [wrap_i64 (by omega)]; omega
          refine need_k (a.isSome = true ∧ 0 ≤ (j : Int) ∧ (j : Int) < (fs.length : Int)) (by kernel_rfl) ⟨hM.sc (hM.sn (List.ne_nil_of_mem hfm)), by omega, by omega⟩ ?_
          refine node_ldk ⟨[f.slot, f.r, f.n, f.p.v.k], [], [], [f.p.v.cs.length, f.p.c1, f.p.v.ns.length, f.p.c2], [f.p.a1, f.p.a2]⟩ (fun _ => .pointer (some (((a.getD ⟨0, 0, none⟩).add (j * 6)).add 0))) f.vote (by intros; kernel_rfl) (by intros; kernel_rfl) (fun ids w2 hp hf => (vo_elt (RV (R4R hf.x.1)) hf0).2) (by kernel_rfl) oneNil ?_
          have hkn := known_jump (t := trim) (j := jump) (hS.fi.2 f hfm)
          rw [← eL3, ← eL4] at hkn
          obtain ⟨v5, ok, hok, hkn2⟩ : ∃ v5 ok, ok = decide (min trim (L.next - 1) < f.slot ∧ (jump ≤ L.next ∨ 1099511627776 < jump ∨ jump ≤ f.slot)) ∧ L4.known f.slot = (v5, ok) := by
            split at hkn
            · rename_i hc; exact ⟨f.p.v, true, (decide_eq_true hc).symm, hkn⟩
            · rename_i hc; exact ⟨vz, false, (decide_eq_false hc).symm, hkn⟩
          refine node_known f.slot hown4 v5 ok hkn2 (by intros; kernel_rfl) (by intros; kernel_rfl) (by kernel_rfl) (by kernel_rfl) (by intros; kernel_rfl) ?_
          intro e3 g3 e4 g4 hfr5 hown5
          have hag : ∀ {m : Mem} {ρ : Env} {S : Stack} {es : Vec}, (∀ ids, es.den ρ ids = ⟨[IntKind.i64.wrap ((j : Int) + 1)], [], [], [], []⟩) → (Tree.again 27 es m).holds ⟨Try.prog, w, fun _ => False, PureAt w (.bool true)⟩ ρ [] ((R4.and (vlX v5 e3 e4)).and (lnX F4 nb L4)) ((27, fun vs' hx'' => ∃ n', n' < fs.length - j ∧ ∃ j : Nat, n' = fs.length - j ∧ j ≤ fs.length ∧ vs' = ⟨[(j : Int)], [], [], [], []⟩ ∧ hx'' = R4.and (lnX F4 nb L4)) :: S) := fun {m ρ S es} hes =>
            again_V _ rfl hes (R4.and (lnX F4 nb L4)) (fun w2 ids hf => ⟨⟨hf.x.1.1, hf.x.2⟩, fun q hq => hf.sep q (hq.elim (fun z => .inl (.inl z)) .inr)⟩) ⟨fs.length - (j + 1), by omega, j + 1, rfl, by omega, by rw [hwk], rfl⟩
          have hlow : f.slot ≤ trim → f.slot < L.next → ok = false := fun h1 h2 => by rw [hok, decide_eq_false]; omega
          have hjmp : ¬ (f.slot ≤ trim ∧ f.slot < L.next) → L4.next ≠ L.next → (ok == decide (f.slot < L4.next)) = false := fun h1 h2 => by
            rw [hnx4] at h2 ⊢
            split at h2
            · rename_i hc
              rw [if_pos hc, hok]
              by_cases h3 : f.slot < jump
              · rw [decide_eq_true h3, decide_eq_false (by omega)]; rfl
              · rw [decide_eq_false h3, decide_eq_true (by omega)]; rfl
            · exact absurd rfl h2
          have hstay : ¬ (f.slot ≤ trim ∧ f.slot < L.next) → L4.next = L.next → ok = true := fun h1 h2 => by
            rw [hnx4] at h2
            rw [hok]
            refine decide_eq_true ⟨by omega, ?_⟩
            split at h2
            · omega
            · omega
          refine br_D (p := f.slot ≤ trim) (by kernel_rfl) (fun h1 => ?_) (fun h1 => ?_)
          · refine br_D (p := f.slot < L.next) (by kernel_rfl) (fun h2 => ?_) (fun h2 => ?_)
            · exact br_F ok (by kernel_rfl) (hlow h1 h2) (hag (by intros; kernel_rfl))
            · refine br_B (L4.next != L.next) (by kernel_rfl) (fun h3 => ?_) (fun h3 => ?_)
              · exact br_F (ok == decide (f.slot < L4.next)) (by kernel_rfl) (hjmp (fun q => h2 q.2) (by simpa using h3)) (hag (by intros; kernel_rfl))
              · exact br_F (!ok) (by kernel_rfl) (by rw [hstay (fun q => h2 q.2) (by simpa using h3)]; rfl) (hag (by intros; kernel_rfl))
          · refine br_B (L4.next != L.next) (by kernel_rfl) (fun h3 => ?_) (fun h3 => ?_)
            · exact br_F (ok == decide (f.slot < L4.next)) (by kernel_rfl) (hjmp (fun q => h1 q.1) (by simpa using h3)) (hag (by intros; kernel_rfl))
            · exact br_F (!ok) (by kernel_rfl) (by rw [hstay (fun q => h1 q.1) (by simpa using h3)]; rfl) (hag (by intros; kernel_rfl))
        · refine pure_out (fun _ => id) (fun ids => ?_)
          refine Eq.trans (b := Value.bool (L4.next == max L.next (min jump L4.next))) (by kernel_rfl) ?_
          have : L4.next = max L.next (min jump L4.next) := by
            rw [hnx4]
            split <;> omega
          rw [← this]; simp
theorem keeps_args (a : Option Addr) (cap : Nat) (ds : List Dat) (trim jump : Int) (w : World) (h1 : Cells w a (Dat.cellsAll ds)) (h2 : ∀ d ∈ ds, d.In Try.prog w 36) (h3 : ds.length ≤ 9223372036854775807) (h4 : ds.length * Try.prog.bytesOf 36 ≤ reachBytes) (ht : I64 trim) (hj : I64 jump) : Calls Try.prog 7 #[.slice a ds.length cap, .int .i64 trim, .int .i64 jump] w (PureAt w (.bool true)) := by
  obtain ⟨os, e1, e2, hos⟩ := opn_ops ds h2
  rw [e2] at h1
  rw [← e1] at h3 h4 ⊢
  refine keeps_walk a cap os trim jump w h1 hos ?_ ht hj
  have : Try.prog.bytesOf 36 = 104 := by kernel_rfl
  rw [this] at h4
  have := reach_is
  omega
end Go.Proofs.Ythmlhnkdiafpkaa
