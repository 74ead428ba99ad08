/- The walk of the law BallotOrder. -/
import Derived.Test.YtkkmcgoiipkblaaBalHead
namespace Go.Proofs.Ytkkmcgoiipkblaa
open Go.ChangeShapes Go.WideShapes Go.ChangeAt Go.RowKit Go.Syn
set_option linter.unusedVariables false
set_option linter.unusedSimpArgs false

theorem compareV_lt (r n s m : Int) : decide (compareV r n s m < 0) = belowB r n s m := by
  unfold compareV belowB cmpV; rw [decide_eq_decide]
  repeat' split
  all_goals omega
theorem compareV_gt (r n s m : Int) : decide (0 < compareV r n s m) = belowB s m r n := by
  unfold compareV belowB cmpV; rw [decide_eq_decide]
  repeat' split
  all_goals omega
theorem compareV_range (r n s m : Int) : -1 ≤ compareV r n s m ∧ compareV r n s m ≤ 1 := by
  unfold compareV cmpV
  repeat' split
  all_goals omega
theorem compareV_neg (r n s m : Int) : compareV r n s m = -compareV s m r n := by
  unfold compareV cmpV
  repeat' split
  all_goals omega

set_option maxHeartbeats 2000000 in
theorem order_walk (a b c d : Int) (w : World) (h1 : I64 a) (h2 : I64 b) (h3 : I64 c) (h4 : I64 d) :
    Calls Try.prog 6 #[.agg #[.int .i64 a, .int .i64 b], .agg #[.int .i64 c, .int .i64 d]] w fun e w' => e = .returned (.bool true) ∧ Below w.heap.size w w' := by
  have L := Lib.hid (compareV_lt a b c d)
  have G := Lib.hid (compareV_gt a b c d)
  obtain ⟨r1, r2⟩ := compareV_range a b c d
  have N := Lib.hid (compareV_neg a b c d)
  obtain ⟨r3, r4⟩ := compareV_range c d a b
  have e0 : compareV 1 2 2 1 = -1 := by decide
  clear h1 h2 h3 h4
  go_enter Try.func6, Try.ntmps6
  go_wp2_with fail
  obtain ⟨W, hW⟩ : ∃ W, W = (w.alloc (.cells #[.int .i64 a, .int .i64 b] 35)).alloc (.cells #[.int .i64 c, .int .i64 d] 35) := ⟨_, rfl⟩
  rw [← hW]
  have HB := Lib.hid (show Below w.heap.size w W by rw [hW]; exact (by repeat (first | exact Below.refl _ _ | assumption | (refine Below.setCell ?_ (by first | omega | (simp; omega) | (simp; done)) _) | (refine below_drewN ?_ _) | (refine Below.drew ?_) | (refine Below.allocW ?_ _) | (refine Below.alloc ?_ (by first | omega | (simp; omega) | (simp; done)) _))))
  have HC := Lib.hid (show ∀ w', Below W.heap.size W w' → w'.cell? ⟨w.heap.size, 0, none⟩ = some (.int .i64 a) ∧ w'.cell? ⟨w.heap.size, 1, none⟩ = some (.int .i64 b) ∧
      w'.cell? ⟨w.heap.size + 1, 0, none⟩ = some (.int .i64 c) ∧ w'.cell? ⟨w.heap.size + 1, 1, none⟩ = some (.int .i64 d) ∧ w.heap.size < w'.heap.size ∧ w.heap.size + 1 < w'.heap.size from fun w' h => by
    have hs := h.size
    refine ⟨h.cellOf ?_, h.cellOf ?_, h.cellOf ?_, h.cellOf ?_, ?_, ?_⟩ <;> rw [hW] at * <;> first | (simp [go_sem]; done) | (simp at hs; omega))
  have hb0 : Below W.heap.size W W := Below.refl _ _
  clear hW
  refine (head_any _).mono ?_; rintro e w1 ⟨rfl, hb1⟩; replace hb1 := Below.step hb0 hb1
  go_wp2_with fail
  refine (compare_any 1 2 2 1 _).mono ?_; rintro e w2 ⟨rfl, hb2⟩; replace hb2 := Below.step hb1 hb2; rw [e0]; obtain ⟨c0, c1, c2, c3, l0, l1⟩ := HC.out _ hb2
  go_wp2_with fail
  refine (compare_any a b c d _).mono ?_; rintro e w3 ⟨rfl, hb3⟩; replace hb3 := Below.step hb2 hb3; clear c0 c1 c2 c3 l0 l1; obtain ⟨c0, c1, c2, c3, l0, l1⟩ := HC.out _ hb3
  go_wp2_with fail
  refine (refBelow_any a b c d _).mono ?_; rintro e w4 ⟨rfl, hb4⟩; replace hb4 := Below.step hb3 hb4; clear c0 c1 c2 c3 l0 l1; obtain ⟨c0, c1, c2, c3, l0, l1⟩ := HC.out _ hb4; rw [← L.out]
  go_wp2_with fail
  refine (refBelow_any c d a b _).mono ?_; rintro e w5 ⟨rfl, hb5⟩; replace hb5 := Below.step hb4 hb5; clear c0 c1 c2 c3 l0 l1; obtain ⟨c0, c1, c2, c3, l0, l1⟩ := HC.out _ hb5; rw [← G.out]
  go_wp2_with fail
  refine (compare_any c d a b _).mono ?_; rintro e w6 ⟨rfl, hb6⟩; replace hb6 := Below.step hb5 hb6; clear c0 c1 c2 c3 l0 l1; obtain ⟨c0, c1, c2, c3, l0, l1⟩ := HC.out _ hb6; rw [N.out]
  go_wp2_with fail
  skip; (refine wp_region_ext (by kernel_rfl) (by kernel_rfl) ?_; (repeat (go_big_quiet_step ((first | (go_at_call 22; exact quiet_ext (valid_any _ _ _)) | (go_at_call 23; exact quiet_ext (refValid_any _ _ _)))))); refine wpQuiet_nil ?_; intro _ hw'; obtain ⟨xq, hw''⟩ := hw'; subst hw'')
  go_wp2_with fail
  go_ret
  exact ⟨ret_bool (by simp), (HB.out.trans (Below.mono (Below.step hb6 xq.ext) HB.out.size))⟩
end Go.Proofs.Ytkkmcgoiipkblaa
