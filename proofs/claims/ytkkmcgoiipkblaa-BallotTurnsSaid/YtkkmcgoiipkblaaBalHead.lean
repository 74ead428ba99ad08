/- The head of the laws of layer 5: it answers true. -/
import Derived.Test.YtkkmcgoiipkblaaBalRef
import Derived.Test.YtkkmcgoiipkblaaLibF
namespace Go.Proofs.Ytkkmcgoiipkblaa
open Go.ChangeShapes Go.WideShapes Go.ChangeAt Go.RowKit Go.Syn
set_option linter.unusedVariables false
set_option linter.unusedSimpArgs false

set_option maxHeartbeats 400000 in
theorem head_any (w : World) : Calls Try.prog 8 #[] w fun e w' => e = .returned (.bool true) ∧ Below w.heap.size w w' := by
  have e1 : nextV [2, 3, 5] 4 2 = (7, 2, 0) := by decide
  have e2 : quorumV [2, 3, 5] = 2 := by decide
  have e3 : enoughB [2, 3, 5] [5, 2] = true := by decide
  have e4 : enoughB [2, 3, 5] [5, 5, 9] = false := by decide
  have e5 : hasB [2, 3, 5] 3 = true := by decide
  have e6 : leaderV [2, 3, 5] 5 = 3 := by decide
  have I0 : Hid (∀ w', Below (w.heap.size + 1) (w.alloc (.cells #[.int .i64 2, .int .i64 3, .int .i64 5] 3)) w' → Ints w' (some ⟨w.heap.size, 0, none⟩) [2, 3, 5]) := fun w' hb =>
    Ints.lit w [2, 3, 5] 3 (by simp) (by simp [I64]) w' hb
  go_enter Try.func8, Try.ntmps8
  go_wp2_with (first
    | (go_at_call 19; refine (next_any _ _ [2, 3, 5] _ _ _ _ (I0.out _ (Below.refl _ _))).mono ?_; rintro e w1 ⟨rfl, hb⟩; rw [World.size_alloc] at hb; have hz := hb.size; simp at hz; rw [e1])
    | (go_at_call 13; refine (quorum_any _ _ [2, 3, 5] _ (by simp)).mono ?_; rintro e w' ⟨rfl, rfl⟩; rw [e2]))
  have J1 : Ints ((w1.alloc (.cells #[.int .i64 7, .int .i64 2] 35)).alloc (.cells #[.int .i64 5, .int .i64 2] 3)) (some ⟨w.heap.size, 0, none⟩) [2, 3, 5] := I0.out _ (by repeat (first | exact Below.refl _ _ | assumption | (refine Below.setCell ?_ (by first | omega | (simp; omega) | (simp; done)) _) | (refine below_drewN ?_ _) | (refine Below.drew ?_) | (refine Below.allocW ?_ _) | (refine Below.alloc ?_ (by first | omega | (simp; omega) | (simp; done)) _)))
  have J2 : Ints ((w1.alloc (.cells #[.int .i64 7, .int .i64 2] 35)).alloc (.cells #[.int .i64 5, .int .i64 2] 3)) (some ⟨w1.heap.size + 1, 0, none⟩) [5, 2] := Ints.litAt _ _ [5, 2] 3 (by simp) (by simp [I64]) (by simp)
  refine (enough_any _ _ [2, 3, 5] _ _ [5, 2] _ J1 J2).mono ?_
  rintro e w' ⟨rfl, rfl⟩; rw [e3]
  go_wp2_with fail
  have J3 : Ints ((w1.alloc (.cells #[.int .i64 7, .int .i64 2] 35)).alloc (.cells #[.int .i64 5, .int .i64 2] 3)|>.alloc (.cells #[.int .i64 5, .int .i64 5, .int .i64 9] 3)) (some ⟨w.heap.size, 0, none⟩) [2, 3, 5] := I0.out _ (by repeat (first | exact Below.refl _ _ | assumption | (refine Below.setCell ?_ (by first | omega | (simp; omega) | (simp; done)) _) | (refine below_drewN ?_ _) | (refine Below.drew ?_) | (refine Below.allocW ?_ _) | (refine Below.alloc ?_ (by first | omega | (simp; omega) | (simp; done)) _)))
  have J4 : Ints ((w1.alloc (.cells #[.int .i64 7, .int .i64 2] 35)).alloc (.cells #[.int .i64 5, .int .i64 2] 3)|>.alloc (.cells #[.int .i64 5, .int .i64 5, .int .i64 9] 3)) (some ⟨w1.heap.size + 1 + 1, 0, none⟩) [5, 5, 9] := Ints.litAt _ _ [5, 5, 9] 3 (by simp) (by simp [I64]) (by simp)
  refine (enough_any _ _ [2, 3, 5] _ _ [5, 5, 9] _ J3 J4).mono ?_
  rintro e w' ⟨rfl, rfl⟩; rw [e4]
  go_wp2_with fail
  refine (has_any _ _ [2, 3, 5] _ _ J3).mono ?_; rintro e w' ⟨rfl, rfl⟩; rw [e5]
  go_wp2_with fail
  refine (leader_any _ _ [2, 3, 5] _ _ J3 ⟨by omega, by omega⟩).mono ?_; rintro e w' ⟨rfl, rfl⟩; rw [e6]
  clear J1 J2 J3 J4
  go_wp2_with fail
  go_ret
  exact ⟨rfl, by
    have hb2 : Below w.heap.size w w1 := ((Below.refl _ w).alloc (Nat.le_refl _) _).trans (hb.mono (by omega))
    exact (by repeat (first | exact Below.refl _ _ | assumption | (refine Below.setCell ?_ (by first | omega | (simp; omega) | (simp; done)) _) | (refine below_drewN ?_ _) | (refine Below.drew ?_) | (refine Below.allocW ?_ _) | (refine Below.alloc ?_ (by first | omega | (simp; omega) | (simp; done)) _)))⟩
end Go.Proofs.Ytkkmcgoiipkblaa
