/- The head of the laws of layer 15. -/
import Derived.Test.YthmlhnkdiafpkaaLnU
namespace Go.Proofs.Ythmlhnkdiafpkaa
open Go.ChangeShapes Go.WideShapes Go.ChangeAt Go.RowKit Go.Syn Go.Eng Go.MapKept
set_option linter.unusedVariables false
set_option linter.unusedSimpArgs false
set_option maxRecDepth 100000
theorem vote_any (slot rd : Int) (v : Vl) (a1 : Option Addr) (c1 : Nat) (a2 : Option Addr) (c2 : Nat) (w : World) : Calls Try.prog 19 #[.int .i64 slot, .int .i64 rd, vlV v a1 c1 a2 c2] w (PureAt w (.agg #[.int .i64 slot, .int .i64 rd, .int .i64 1, .int .i64 v.k, .slice a1 v.cs.length c1, .slice a2 v.ns.length c2])) := by
  refine calls_at (tab_ok _) Try.func19 rfl tLVote (ρ := ⟨[slot, rd, v.k], [], [], [v.cs.length, c1, v.ns.length, c2], [a1, a2]⟩) (ids := []) rfl (Facts.initP rfl oneNil) ?_
  exact pure_done (by intros; kernel_rfl)
theorem vz_at (w : World) (a1 a2 : Option Addr) : VlAt w vz a1 a2 := vz_fit.at_ ⟨cl_nil _ _, cl_nil _ _⟩
theorem vz_F {k : Nat} {a1 a2 : Option Addr} (h : (vlX vz a1 a2).F k) : False := h.elim (fun q => q.1 rfl) (fun q => q.1 rfl)
theorem ints_blk {P : Program} {W w : World} {M : Nat → Prop} {R : Ending → World → Prop} {m : Mem} {ρ : Env} {ids : List Nat} {hx : HX} (hf : Facts ⟨P, W, M, R⟩ m ρ ids hx w) (n ty : Nat) (cs : List LV) (xs : List Int) (h : m.hp[n]? = some (ty, cs)) (hc : cellsDen ρ ids cs = xs.map (Value.int .i64)) (hl : xs.length ≤ 1000) (hx : ∀ x ∈ xs, I64 x) : Ints w (some ⟨idAt ids n, 0, none⟩) xs :=
  Ints.of_cells (by omega) hx (blk_cells (ty := ty) (by have := hf.blk n ty cs h; rw [hc] at this; exact this))
theorem pure_out {P : Program} {W : World} {M : Nat → Prop} {v : SV} {m : Mem} {ρ : Env} {pre : List Nat} {hx : HX} {L : Stack} {V : Value} (hM : ∀ x, ¬ M x) (hv : ∀ ids, v.den ρ ids = V) : (Tree.done v m).holds ⟨P, W, M, PureAt W V⟩ ρ pre hx L := fun ids w2 hp hf =>
  ⟨by rw [hv], (show Chg (fun _ => False) W w2 from ⟨hf.chg.os, hf.chg.tape, hf.chg.output, hf.chg.size, fun k hk _ => hf.chg.block k hk (hM k)⟩).below⟩
theorem ok123 : setOkB [1, 2, 3] = true := by kernel_rfl
theorem inv123 : LnInv (Ln.new [1, 2, 3] 1) := LnInv.new (setOkB_iff.1 ok123) (by omega) (by omega)
theorem i123 : ∀ x ∈ ([1, 2, 3] : List Int), I64 x := by unfold I64; decide
theorem head_any (w : World) : Calls Try.prog 8 #[] w (PureAt w (.bool true)) := by
  have j1 := inv123.voted (node := 1) (slot := 2) (r := 1) (n := 1) (v := vz)
  have j2 := j1.voted (node := 3) (slot := 2) (r := 1) (n := 1) (v := vz)
  have j3 := j2.told (slot := 1) (v := vz)
  have j4 := j3.pass
  have j5 := j4.pass
  have j6 := j5.pass
  have i1 : I64 1 := by unfold I64; omega
  have i2 : I64 2 := by unfold I64; omega
  refine calls_at (tab_ok _) Try.func8 rfl tLHead (ρ := ⟨[], [], [], [], []⟩) (ids := []) (hx := HX.nil) rfl (Facts.initP rfl oneNil) ?_
  refine node_lnew (fun ids => some ⟨idAt ids 0, 0, none⟩) 3 [1, 2, 3] 1 (by intros; kernel_rfl) (fun ids w2 hp hf => ints_blk hf 0 _ _ [1, 2, 3] rfl (by kernel_rfl) (by decide) i123) ⟨ok123, by omega, by omega⟩ (by intros; kernel_rfl) (by kernel_rfl) (by kernel_rfl) (by intros; kernel_rfl) ?_
  intro nb F hown
  refine node_pnil (pt := 24) (et := 77) (some ⟨nb, 0, none⟩) ⟨[], [false], [], [], []⟩ Try.underlying24 (by intros; kernel_rfl) (by intros; kernel_rfl) (by intros; kernel_rfl) (by kernel_rfl) (by kernel_rfl) (by kernel_rfl) oneNil ?_
  refine br_F false (by kernel_rfl) rfl ?_
  refine node_P ⟨[2, 1, 1, 0], [], [], [0, 0, 0, 0], [none, none]⟩ #[.int .i64 2, .int .i64 1, vlV vz none 0 none 0] (.agg #[.int .i64 2, .int .i64 1, .int .i64 1, .int .i64 0, .slice none 0 0, .slice none 0 0]) (by intros; kernel_rfl) (by intros; kernel_rfl) (by kernel_rfl) (by kernel_rfl) (by kernel_rfl) oneNil (fun ids w2 hp hf => vote_any 2 1 vz none 0 none 0 w2) ?_
  refine node_voted 1 2 1 1 vz (fun _ => none) 0 (fun _ => none) 0 hown inv123 i2 false (by kernel_rfl) (by intros; kernel_rfl) (fun ids w2 hp hf => ⟨vz_at _ _ _, fun k hk => (vz_F hk).elim⟩) (by intros; kernel_rfl) (by kernel_rfl) (by kernel_rfl) (by kernel_rfl) ?_
  intro F1 hown1
  refine br_F false (by kernel_rfl) rfl ?_
  refine node_P ⟨[2, 1, 1, 0], [], [], [0, 0, 0, 0], [none, none]⟩ #[.int .i64 2, .int .i64 1, vlV vz none 0 none 0] (.agg #[.int .i64 2, .int .i64 1, .int .i64 1, .int .i64 0, .slice none 0 0, .slice none 0 0]) (by intros; kernel_rfl) (by intros; kernel_rfl) (by kernel_rfl) (by kernel_rfl) (by kernel_rfl) oneNil (fun ids w2 hp hf => vote_any 2 1 vz none 0 none 0 w2) ?_
  refine node_voted 3 2 1 1 vz (fun _ => none) 0 (fun _ => none) 0 hown1 j1 i2 true (by kernel_rfl) (by intros; kernel_rfl) (fun ids w2 hp hf => ⟨vz_at _ _ _, fun k hk => (vz_F hk).elim⟩) (by intros; kernel_rfl) (by kernel_rfl) (by kernel_rfl) (by kernel_rfl) ?_
  intro F2 hown2
  refine br_F false (by kernel_rfl) rfl ?_
  refine node_lnext hown2 vz false (by kernel_rfl) (by intros; kernel_rfl) (by intros; kernel_rfl) (by kernel_rfl) (by kernel_rfl) (by intros; kernel_rfl) ?_
  intro b1 d1 b2 d2 _ hown3
  refine br_T true (by kernel_rfl) rfl ?_
  refine br_T true (by kernel_rfl) rfl ?_
  refine node_lmiss 9 hown3 j2 [1] (by kernel_rfl) (by intros; kernel_rfl) (by intros; kernel_rfl) (by kernel_rfl) (by kernel_rfl) (by intros; kernel_rfl) ?_
  intro a' c' hown4
  refine node_PI ⟨[], [true], [], [], []⟩ (fun ids => #[.slice a' 1 c', .slice (some ⟨idAt ids 2, 0, none⟩) 1 1]) (.bool true) (by intros; kernel_rfl) (by intros; kernel_rfl) (by kernel_rfl) (by kernel_rfl) (by kernel_rfl) oneNil (fun ids w2 hp hf => ?_) ?_
  · have := intsB_any a' c' [1] (some ⟨idAt ids 2, 0, none⟩) 1 [1] w2 (Ints.of_cells (by decide) (by unfold I64; decide) (rw_cells hf.x.1.2)) (ints_blk hf 2 _ _ [1] rfl (by kernel_rfl) (by decide) (by unfold I64; decide)) (by decide)
    exact this
  refine br_T true (by kernel_rfl) rfl ?_
  refine node_told 1 vz (fun _ => none) 0 (fun _ => none) 0 hown4 j2 i1 true (by kernel_rfl) (by intros; kernel_rfl) (fun ids w2 hp hf => ⟨vz_at _ _ _, fun k hk => (vz_F hk).elim⟩) (by intros; kernel_rfl) (by kernel_rfl) (by kernel_rfl) (by kernel_rfl) ?_
  intro F3 hown5
  refine br_T true (by kernel_rfl) rfl ?_
  refine node_pass hown5 j3 true (by kernel_rfl) (by intros; kernel_rfl) (by intros; kernel_rfl) (by kernel_rfl) (by kernel_rfl) (by kernel_rfl) ?_
  intro F4 hown6
  refine br_T true (by kernel_rfl) rfl ?_
  refine node_pass hown6 j4 true (by kernel_rfl) (by intros; kernel_rfl) (by intros; kernel_rfl) (by kernel_rfl) (by kernel_rfl) (by kernel_rfl) ?_
  intro F5 hown7
  refine br_T true (by kernel_rfl) rfl ?_
  refine node_pass hown7 j5 false (by kernel_rfl) (by intros; kernel_rfl) (by intros; kernel_rfl) (by kernel_rfl) (by kernel_rfl) (by kernel_rfl) ?_
  intro F6 hown8
  refine br_T true (by kernel_rfl) rfl ?_
  refine node_lsize j6 2 (by kernel_rfl) (by intros; kernel_rfl) (by intros; kernel_rfl) (by kernel_rfl) (by kernel_rfl) (by kernel_rfl) ?_
  exact pure_out (fun _ => id) (by intros; kernel_rfl)
end Go.Proofs.Ythmlhnkdiafpkaa
