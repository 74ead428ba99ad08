/- Contract of synodref04.Right. -/
import Derived.Test.YtedmjckelghpiaaApp
namespace Go.Proofs.Ytedmjckelghpiaa
open Go.ChangeShapes Go.WideShapes Go.ChangeAt Go.RowKit Go.Syn
set_option linter.unusedVariables false
set_option linter.unusedSimpArgs false

/-- What a kind's To may be at most. -/
def mostV (k : Int) : Int := if k = 5 then 3 else if 6 ≤ k then 7 else 0
theorem opB_iff (o : OpD) : opB o = true ↔ (1 ≤ o.kind ∧ o.kind ≤ 7) ∧ (0 ≤ o.reg ∧ o.reg ≤ 7) ∧ 0 ≤ o.tg ∧ o.tg ≤ mostV o.kind ∧ fitB o.re o.im = true ∧ ((o.kind = 2 ∨ o.kind = 3 ∨ o.kind = 4 ∨ o.kind = 7) ∨ (o.re = 0 ∧ o.im = 0)) := by
  obtain ⟨kind, reg, tg, re, im⟩ := o
  have kinds : kind = 1 ∨ kind = 2 ∨ kind = 3 ∨ kind = 4 ∨ kind = 5 ∨ kind = 6 ∨ kind = 7 ∨ (kind < 1 ∨ 7 < kind) := by omega
  rcases kinds with rfl | rfl | rfl | rfl | rfl | rfl | rfl | hk
  case inr.inr.inr.inr.inr.inr.inr =>
    have : opB ⟨kind, reg, tg, re, im⟩ = false := by
      unfold opB; dsimp only
      rw [if_neg (by omega), if_neg (by omega), if_neg (by omega), if_neg (by omega), if_neg (by omega)]; simp
    rw [this]; dsimp only; constructor
    · intro h; cases h
    · rintro ⟨⟨h1, h2⟩, _⟩; omega
  all_goals
    simp [opB, inB, bareB, fitB, mostV]
    try omega

set_option maxHeartbeats 4000000 in
theorem refOp_any (o : OpD) (w : World) : Calls Try.prog 16 #[.agg o.cells.toArray] w fun e w' => e = .returned (.bool (opB o)) ∧ Below w.heap.size w w' := by
  have E := Lib.hid (opB_iff o)
  obtain ⟨kind, reg, tg, re, im⟩ := o
  simp only [OpD.cells]
  dsimp only at E
  generalize opB ⟨kind, reg, tg, re, im⟩ = R at *
  by_cases hr : (1 ≤ kind ∧ kind ≤ 7) ∧ (0 ≤ reg ∧ reg ≤ 7) ∧ 0 ≤ tg
  · obtain ⟨⟨hk1, hk2⟩, ⟨hr1, hr2⟩, ht⟩ := hr
    have kinds : kind = 1 ∨ kind = 2 ∨ kind = 3 ∨ kind = 4 ∨ kind = 5 ∨ kind = 6 ∨ kind = 7 := by omega
    rcases kinds with rfl | rfl | rfl | rfl | rfl | rfl | rfl
    · have M : mostV 1 = 0 := rfl
      rw [M] at E
      clear M
      by_cases hm : 0 < tg
      · have g1 : decide (0 < tg) = true := decide_eq_true hm
        have e : R = false := by
          have e := E.out
          cases R
          · rfl
          · exact absurd (e.1 rfl) (by rintro ⟨_, _, _, h4, _⟩; omega)
        subst e
        go_enter Try.func16, Try.ntmps16
        go_wp2_with fail
        go_quiet ((go_at_call 19; exact (ref03_any _ _ _).mono fun _ _ h => ⟨h.1, _, h.2.symm⟩))
        go_wp2_with fail
        go_ret
        exact ⟨rfl, by exact (by repeat (first | exact Below.refl _ _ | assumption | (refine Below.setCell ?_ (by first | omega | (simp; omega) | (simp; done)) _) | (refine below_drewN ?_ _) | (refine Below.drew ?_) | (refine Below.allocW ?_ _) | (refine Below.alloc ?_ (by first | omega | (simp; omega) | (simp; done)) _)))⟩
      · have g1 : decide (0 < tg) = false := decide_eq_false hm
        by_cases hf : fitB re im = true
        · have F := Lib.hid (show ∀ w, Calls Try.prog 19 #[.int .i64 re, .int .i64 im] w fun e w' => e = .returned (.bool true) ∧ w = w' from fun w => by have := ref03_any re im w; rw [hf] at this; exact this)
          have e : R = decide (re = 0 ∧ im = 0) := by
            rw [Bool.eq_iff_iff, E.out, decide_eq_true_iff]
            constructor
            · rintro ⟨_, _, _, _, _, h6⟩; omega
            · rintro ⟨rfl, rfl⟩; exact ⟨⟨by omega, by omega⟩, ⟨hr1, hr2⟩, ht, by omega, hf, by omega⟩
          replace e := Lib.hid e
          clear hf
          go_enter Try.func16, Try.ntmps16
          go_wp2_with fail
          go_quiet ((go_at_call 19; exact (F.out _).mono fun _ _ h => ⟨h.1, _, h.2.symm⟩))
          go_wp2_with fail
          all_goals
            go_ret
            exact ⟨by rw [e.out]; exact ret_bool (by simp; try omega), by exact (by repeat (first | exact Below.refl _ _ | assumption | (refine Below.setCell ?_ (by first | omega | (simp; omega) | (simp; done)) _) | (refine below_drewN ?_ _) | (refine Below.drew ?_) | (refine Below.allocW ?_ _) | (refine Below.alloc ?_ (by first | omega | (simp; omega) | (simp; done)) _)))⟩
        · have F := Lib.hid (show ∀ w, Calls Try.prog 19 #[.int .i64 re, .int .i64 im] w fun e w' => e = .returned (.bool false) ∧ w = w' from fun w => by
            have := ref03_any re im w; rw [show fitB re im = false by simpa using hf] at this; exact this)
          have e : R = false := by
            have e := E.out
            cases R
            · rfl
            · exact absurd (e.1 rfl) (by rintro ⟨_, _, _, _, h5, _⟩; exact hf h5)
          subst e
          clear hf
          go_enter Try.func16, Try.ntmps16
          go_wp2_with fail
          go_quiet ((go_at_call 19; exact (F.out _).mono fun _ _ h => ⟨h.1, _, h.2.symm⟩))
          go_wp2_with fail
          go_ret
          exact ⟨rfl, by exact (by repeat (first | exact Below.refl _ _ | assumption | (refine Below.setCell ?_ (by first | omega | (simp; omega) | (simp; done)) _) | (refine below_drewN ?_ _) | (refine Below.drew ?_) | (refine Below.allocW ?_ _) | (refine Below.alloc ?_ (by first | omega | (simp; omega) | (simp; done)) _)))⟩
    · have M : mostV 2 = 0 := rfl
      rw [M] at E
      clear M
      by_cases hm : 0 < tg
      · have g1 : decide (0 < tg) = true := decide_eq_true hm
        have e : R = false := by
          have e := E.out
          cases R
          · rfl
          · exact absurd (e.1 rfl) (by rintro ⟨_, _, _, h4, _⟩; omega)
        subst e
        go_enter Try.func16, Try.ntmps16
        go_wp2_with fail
        go_quiet ((go_at_call 19; exact (ref03_any _ _ _).mono fun _ _ h => ⟨h.1, _, h.2.symm⟩))
        go_wp2_with fail
        go_ret
        exact ⟨rfl, by exact (by repeat (first | exact Below.refl _ _ | assumption | (refine Below.setCell ?_ (by first | omega | (simp; omega) | (simp; done)) _) | (refine below_drewN ?_ _) | (refine Below.drew ?_) | (refine Below.allocW ?_ _) | (refine Below.alloc ?_ (by first | omega | (simp; omega) | (simp; done)) _)))⟩
      · have g1 : decide (0 < tg) = false := decide_eq_false hm
        by_cases hf : fitB re im = true
        · have F := Lib.hid (show ∀ w, Calls Try.prog 19 #[.int .i64 re, .int .i64 im] w fun e w' => e = .returned (.bool true) ∧ w = w' from fun w => by have := ref03_any re im w; rw [hf] at this; exact this)
          have e : R = decide (True) := by
            rw [Bool.eq_iff_iff, E.out, decide_eq_true_iff]
            constructor
            · intro _; trivial
            · intro _; exact ⟨⟨by omega, by omega⟩, ⟨hr1, hr2⟩, ht, by omega, hf, by omega⟩
          replace e := Lib.hid e
          clear hf
          go_enter Try.func16, Try.ntmps16
          go_wp2_with fail
          go_quiet ((go_at_call 19; exact (F.out _).mono fun _ _ h => ⟨h.1, _, h.2.symm⟩))
          go_wp2_with fail
          all_goals
            go_ret
            exact ⟨by rw [e.out]; exact ret_bool (by simp; try omega), by exact (by repeat (first | exact Below.refl _ _ | assumption | (refine Below.setCell ?_ (by first | omega | (simp; omega) | (simp; done)) _) | (refine below_drewN ?_ _) | (refine Below.drew ?_) | (refine Below.allocW ?_ _) | (refine Below.alloc ?_ (by first | omega | (simp; omega) | (simp; done)) _)))⟩
        · have F := Lib.hid (show ∀ w, Calls Try.prog 19 #[.int .i64 re, .int .i64 im] w fun e w' => e = .returned (.bool false) ∧ w = w' from fun w => by
            have := ref03_any re im w; rw [show fitB re im = false by simpa using hf] at this; exact this)
          have e : R = false := by
            have e := E.out
            cases R
            · rfl
            · exact absurd (e.1 rfl) (by rintro ⟨_, _, _, _, h5, _⟩; exact hf h5)
          subst e
          clear hf
          go_enter Try.func16, Try.ntmps16
          go_wp2_with fail
          go_quiet ((go_at_call 19; exact (F.out _).mono fun _ _ h => ⟨h.1, _, h.2.symm⟩))
          go_wp2_with fail
          go_ret
          exact ⟨rfl, by exact (by repeat (first | exact Below.refl _ _ | assumption | (refine Below.setCell ?_ (by first | omega | (simp; omega) | (simp; done)) _) | (refine below_drewN ?_ _) | (refine Below.drew ?_) | (refine Below.allocW ?_ _) | (refine Below.alloc ?_ (by first | omega | (simp; omega) | (simp; done)) _)))⟩
    · have M : mostV 3 = 0 := rfl
      rw [M] at E
      clear M
      by_cases hm : 0 < tg
      · have g1 : decide (0 < tg) = true := decide_eq_true hm
        have e : R = false := by
          have e := E.out
          cases R
          · rfl
          · exact absurd (e.1 rfl) (by rintro ⟨_, _, _, h4, _⟩; omega)
        subst e
        go_enter Try.func16, Try.ntmps16
        go_wp2_with fail
        go_quiet ((go_at_call 19; exact (ref03_any _ _ _).mono fun _ _ h => ⟨h.1, _, h.2.symm⟩))
        go_wp2_with fail
        go_ret
        exact ⟨rfl, by exact (by repeat (first | exact Below.refl _ _ | assumption | (refine Below.setCell ?_ (by first | omega | (simp; omega) | (simp; done)) _) | (refine below_drewN ?_ _) | (refine Below.drew ?_) | (refine Below.allocW ?_ _) | (refine Below.alloc ?_ (by first | omega | (simp; omega) | (simp; done)) _)))⟩
      · have g1 : decide (0 < tg) = false := decide_eq_false hm
        by_cases hf : fitB re im = true
        · have F := Lib.hid (show ∀ w, Calls Try.prog 19 #[.int .i64 re, .int .i64 im] w fun e w' => e = .returned (.bool true) ∧ w = w' from fun w => by have := ref03_any re im w; rw [hf] at this; exact this)
          have e : R = decide (True) := by
            rw [Bool.eq_iff_iff, E.out, decide_eq_true_iff]
            constructor
            · intro _; trivial
            · intro _; exact ⟨⟨by omega, by omega⟩, ⟨hr1, hr2⟩, ht, by omega, hf, by omega⟩
          replace e := Lib.hid e
          clear hf
          go_enter Try.func16, Try.ntmps16
          go_wp2_with fail
          go_quiet ((go_at_call 19; exact (F.out _).mono fun _ _ h => ⟨h.1, _, h.2.symm⟩))
          go_wp2_with fail
          all_goals
            go_ret
            exact ⟨by rw [e.out]; exact ret_bool (by simp; try omega), by exact (by repeat (first | exact Below.refl _ _ | assumption | (refine Below.setCell ?_ (by first | omega | (simp; omega) | (simp; done)) _) | (refine below_drewN ?_ _) | (refine Below.drew ?_) | (refine Below.allocW ?_ _) | (refine Below.alloc ?_ (by first | omega | (simp; omega) | (simp; done)) _)))⟩
        · have F := Lib.hid (show ∀ w, Calls Try.prog 19 #[.int .i64 re, .int .i64 im] w fun e w' => e = .returned (.bool false) ∧ w = w' from fun w => by
            have := ref03_any re im w; rw [show fitB re im = false by simpa using hf] at this; exact this)
          have e : R = false := by
            have e := E.out
            cases R
            · rfl
            · exact absurd (e.1 rfl) (by rintro ⟨_, _, _, _, h5, _⟩; exact hf h5)
          subst e
          clear hf
          go_enter Try.func16, Try.ntmps16
          go_wp2_with fail
          go_quiet ((go_at_call 19; exact (F.out _).mono fun _ _ h => ⟨h.1, _, h.2.symm⟩))
          go_wp2_with fail
          go_ret
          exact ⟨rfl, by exact (by repeat (first | exact Below.refl _ _ | assumption | (refine Below.setCell ?_ (by first | omega | (simp; omega) | (simp; done)) _) | (refine below_drewN ?_ _) | (refine Below.drew ?_) | (refine Below.allocW ?_ _) | (refine Below.alloc ?_ (by first | omega | (simp; omega) | (simp; done)) _)))⟩
    · have M : mostV 4 = 0 := rfl
      rw [M] at E
      clear M
      by_cases hm : 0 < tg
      · have g1 : decide (0 < tg) = true := decide_eq_true hm
        have e : R = false := by
          have e := E.out
          cases R
          · rfl
          · exact absurd (e.1 rfl) (by rintro ⟨_, _, _, h4, _⟩; omega)
        subst e
        go_enter Try.func16, Try.ntmps16
        go_wp2_with fail
        go_quiet ((go_at_call 19; exact (ref03_any _ _ _).mono fun _ _ h => ⟨h.1, _, h.2.symm⟩))
        go_wp2_with fail
        go_ret
        exact ⟨rfl, by exact (by repeat (first | exact Below.refl _ _ | assumption | (refine Below.setCell ?_ (by first | omega | (simp; omega) | (simp; done)) _) | (refine below_drewN ?_ _) | (refine Below.drew ?_) | (refine Below.allocW ?_ _) | (refine Below.alloc ?_ (by first | omega | (simp; omega) | (simp; done)) _)))⟩
      · have g1 : decide (0 < tg) = false := decide_eq_false hm
        by_cases hf : fitB re im = true
        · have F := Lib.hid (show ∀ w, Calls Try.prog 19 #[.int .i64 re, .int .i64 im] w fun e w' => e = .returned (.bool true) ∧ w = w' from fun w => by have := ref03_any re im w; rw [hf] at this; exact this)
          have e : R = decide (True) := by
            rw [Bool.eq_iff_iff, E.out, decide_eq_true_iff]
            constructor
            · intro _; trivial
            · intro _; exact ⟨⟨by omega, by omega⟩, ⟨hr1, hr2⟩, ht, by omega, hf, by omega⟩
          replace e := Lib.hid e
          clear hf
          go_enter Try.func16, Try.ntmps16
          go_wp2_with fail
          go_quiet ((go_at_call 19; exact (F.out _).mono fun _ _ h => ⟨h.1, _, h.2.symm⟩))
          go_wp2_with fail
          all_goals
            go_ret
            exact ⟨by rw [e.out]; exact ret_bool (by simp; try omega), by exact (by repeat (first | exact Below.refl _ _ | assumption | (refine Below.setCell ?_ (by first | omega | (simp; omega) | (simp; done)) _) | (refine below_drewN ?_ _) | (refine Below.drew ?_) | (refine Below.allocW ?_ _) | (refine Below.alloc ?_ (by first | omega | (simp; omega) | (simp; done)) _)))⟩
        · have F := Lib.hid (show ∀ w, Calls Try.prog 19 #[.int .i64 re, .int .i64 im] w fun e w' => e = .returned (.bool false) ∧ w = w' from fun w => by
            have := ref03_any re im w; rw [show fitB re im = false by simpa using hf] at this; exact this)
          have e : R = false := by
            have e := E.out
            cases R
            · rfl
            · exact absurd (e.1 rfl) (by rintro ⟨_, _, _, _, h5, _⟩; exact hf h5)
          subst e
          clear hf
          go_enter Try.func16, Try.ntmps16
          go_wp2_with fail
          go_quiet ((go_at_call 19; exact (F.out _).mono fun _ _ h => ⟨h.1, _, h.2.symm⟩))
          go_wp2_with fail
          go_ret
          exact ⟨rfl, by exact (by repeat (first | exact Below.refl _ _ | assumption | (refine Below.setCell ?_ (by first | omega | (simp; omega) | (simp; done)) _) | (refine below_drewN ?_ _) | (refine Below.drew ?_) | (refine Below.allocW ?_ _) | (refine Below.alloc ?_ (by first | omega | (simp; omega) | (simp; done)) _)))⟩
    · have M : mostV 5 = 3 := rfl
      rw [M] at E
      clear M
      by_cases hm : 3 < tg
      · have g1 : decide (3 < tg) = true := decide_eq_true hm
        have e : R = false := by
          have e := E.out
          cases R
          · rfl
          · exact absurd (e.1 rfl) (by rintro ⟨_, _, _, h4, _⟩; omega)
        subst e
        go_enter Try.func16, Try.ntmps16
        go_wp2_with fail
        go_quiet ((go_at_call 19; exact (ref03_any _ _ _).mono fun _ _ h => ⟨h.1, _, h.2.symm⟩))
        go_wp2_with fail
        go_ret
        exact ⟨rfl, by exact (by repeat (first | exact Below.refl _ _ | assumption | (refine Below.setCell ?_ (by first | omega | (simp; omega) | (simp; done)) _) | (refine below_drewN ?_ _) | (refine Below.drew ?_) | (refine Below.allocW ?_ _) | (refine Below.alloc ?_ (by first | omega | (simp; omega) | (simp; done)) _)))⟩
      · have g1 : decide (3 < tg) = false := decide_eq_false hm
        by_cases hf : fitB re im = true
        · have F := Lib.hid (show ∀ w, Calls Try.prog 19 #[.int .i64 re, .int .i64 im] w fun e w' => e = .returned (.bool true) ∧ w = w' from fun w => by have := ref03_any re im w; rw [hf] at this; exact this)
          have e : R = decide (re = 0 ∧ im = 0) := by
            rw [Bool.eq_iff_iff, E.out, decide_eq_true_iff]
            constructor
            · rintro ⟨_, _, _, _, _, h6⟩; omega
            · rintro ⟨rfl, rfl⟩; exact ⟨⟨by omega, by omega⟩, ⟨hr1, hr2⟩, ht, by omega, hf, by omega⟩
          replace e := Lib.hid e
          clear hf
          go_enter Try.func16, Try.ntmps16
          go_wp2_with fail
          go_quiet ((go_at_call 19; exact (F.out _).mono fun _ _ h => ⟨h.1, _, h.2.symm⟩))
          go_wp2_with fail
          all_goals
            go_ret
            exact ⟨by rw [e.out]; exact ret_bool (by simp; try omega), by exact (by repeat (first | exact Below.refl _ _ | assumption | (refine Below.setCell ?_ (by first | omega | (simp; omega) | (simp; done)) _) | (refine below_drewN ?_ _) | (refine Below.drew ?_) | (refine Below.allocW ?_ _) | (refine Below.alloc ?_ (by first | omega | (simp; omega) | (simp; done)) _)))⟩
        · have F := Lib.hid (show ∀ w, Calls Try.prog 19 #[.int .i64 re, .int .i64 im] w fun e w' => e = .returned (.bool false) ∧ w = w' from fun w => by
            have := ref03_any re im w; rw [show fitB re im = false by simpa using hf] at this; exact this)
          have e : R = false := by
            have e := E.out
            cases R
            · rfl
            · exact absurd (e.1 rfl) (by rintro ⟨_, _, _, _, h5, _⟩; exact hf h5)
          subst e
          clear hf
          go_enter Try.func16, Try.ntmps16
          go_wp2_with fail
          go_quiet ((go_at_call 19; exact (F.out _).mono fun _ _ h => ⟨h.1, _, h.2.symm⟩))
          go_wp2_with fail
          go_ret
          exact ⟨rfl, by exact (by repeat (first | exact Below.refl _ _ | assumption | (refine Below.setCell ?_ (by first | omega | (simp; omega) | (simp; done)) _) | (refine below_drewN ?_ _) | (refine Below.drew ?_) | (refine Below.allocW ?_ _) | (refine Below.alloc ?_ (by first | omega | (simp; omega) | (simp; done)) _)))⟩
    · have M : mostV 6 = 7 := rfl
      rw [M] at E
      clear M
      by_cases hm : 7 < tg
      · have g1 : decide (7 < tg) = true := decide_eq_true hm
        have e : R = false := by
          have e := E.out
          cases R
          · rfl
          · exact absurd (e.1 rfl) (by rintro ⟨_, _, _, h4, _⟩; omega)
        subst e
        go_enter Try.func16, Try.ntmps16
        go_wp2_with fail
        go_quiet ((go_at_call 19; exact (ref03_any _ _ _).mono fun _ _ h => ⟨h.1, _, h.2.symm⟩))
        go_wp2_with fail
        go_ret
        exact ⟨rfl, by exact (by repeat (first | exact Below.refl _ _ | assumption | (refine Below.setCell ?_ (by first | omega | (simp; omega) | (simp; done)) _) | (refine below_drewN ?_ _) | (refine Below.drew ?_) | (refine Below.allocW ?_ _) | (refine Below.alloc ?_ (by first | omega | (simp; omega) | (simp; done)) _)))⟩
      · have g1 : decide (7 < tg) = false := decide_eq_false hm
        by_cases hf : fitB re im = true
        · have F := Lib.hid (show ∀ w, Calls Try.prog 19 #[.int .i64 re, .int .i64 im] w fun e w' => e = .returned (.bool true) ∧ w = w' from fun w => by have := ref03_any re im w; rw [hf] at this; exact this)
          have e : R = decide (re = 0 ∧ im = 0) := by
            rw [Bool.eq_iff_iff, E.out, decide_eq_true_iff]
            constructor
            · rintro ⟨_, _, _, _, _, h6⟩; omega
            · rintro ⟨rfl, rfl⟩; exact ⟨⟨by omega, by omega⟩, ⟨hr1, hr2⟩, ht, by omega, hf, by omega⟩
          replace e := Lib.hid e
          clear hf
          go_enter Try.func16, Try.ntmps16
          go_wp2_with fail
          go_quiet ((go_at_call 19; exact (F.out _).mono fun _ _ h => ⟨h.1, _, h.2.symm⟩))
          go_wp2_with fail
          all_goals
            go_ret
            exact ⟨by rw [e.out]; exact ret_bool (by simp; try omega), by exact (by repeat (first | exact Below.refl _ _ | assumption | (refine Below.setCell ?_ (by first | omega | (simp; omega) | (simp; done)) _) | (refine below_drewN ?_ _) | (refine Below.drew ?_) | (refine Below.allocW ?_ _) | (refine Below.alloc ?_ (by first | omega | (simp; omega) | (simp; done)) _)))⟩
        · have F := Lib.hid (show ∀ w, Calls Try.prog 19 #[.int .i64 re, .int .i64 im] w fun e w' => e = .returned (.bool false) ∧ w = w' from fun w => by
            have := ref03_any re im w; rw [show fitB re im = false by simpa using hf] at this; exact this)
          have e : R = false := by
            have e := E.out
            cases R
            · rfl
            · exact absurd (e.1 rfl) (by rintro ⟨_, _, _, _, h5, _⟩; exact hf h5)
          subst e
          clear hf
          go_enter Try.func16, Try.ntmps16
          go_wp2_with fail
          go_quiet ((go_at_call 19; exact (F.out _).mono fun _ _ h => ⟨h.1, _, h.2.symm⟩))
          go_wp2_with fail
          go_ret
          exact ⟨rfl, by exact (by repeat (first | exact Below.refl _ _ | assumption | (refine Below.setCell ?_ (by first | omega | (simp; omega) | (simp; done)) _) | (refine below_drewN ?_ _) | (refine Below.drew ?_) | (refine Below.allocW ?_ _) | (refine Below.alloc ?_ (by first | omega | (simp; omega) | (simp; done)) _)))⟩
    · have M : mostV 7 = 7 := rfl
      rw [M] at E
      clear M
      by_cases hm : 7 < tg
      · have g1 : decide (7 < tg) = true := decide_eq_true hm
        have e : R = false := by
          have e := E.out
          cases R
          · rfl
          · exact absurd (e.1 rfl) (by rintro ⟨_, _, _, h4, _⟩; omega)
        subst e
        go_enter Try.func16, Try.ntmps16
        go_wp2_with fail
        go_quiet ((go_at_call 19; exact (ref03_any _ _ _).mono fun _ _ h => ⟨h.1, _, h.2.symm⟩))
        go_wp2_with fail
        go_ret
        exact ⟨rfl, by exact (by repeat (first | exact Below.refl _ _ | assumption | (refine Below.setCell ?_ (by first | omega | (simp; omega) | (simp; done)) _) | (refine below_drewN ?_ _) | (refine Below.drew ?_) | (refine Below.allocW ?_ _) | (refine Below.alloc ?_ (by first | omega | (simp; omega) | (simp; done)) _)))⟩
      · have g1 : decide (7 < tg) = false := decide_eq_false hm
        by_cases hf : fitB re im = true
        · have F := Lib.hid (show ∀ w, Calls Try.prog 19 #[.int .i64 re, .int .i64 im] w fun e w' => e = .returned (.bool true) ∧ w = w' from fun w => by have := ref03_any re im w; rw [hf] at this; exact this)
          have e : R = decide (True) := by
            rw [Bool.eq_iff_iff, E.out, decide_eq_true_iff]
            constructor
            · intro _; trivial
            · intro _; exact ⟨⟨by omega, by omega⟩, ⟨hr1, hr2⟩, ht, by omega, hf, by omega⟩
          replace e := Lib.hid e
          clear hf
          go_enter Try.func16, Try.ntmps16
          go_wp2_with fail
          go_quiet ((go_at_call 19; exact (F.out _).mono fun _ _ h => ⟨h.1, _, h.2.symm⟩))
          go_wp2_with fail
          all_goals
            go_ret
            exact ⟨by rw [e.out]; exact ret_bool (by simp; try omega), by exact (by repeat (first | exact Below.refl _ _ | assumption | (refine Below.setCell ?_ (by first | omega | (simp; omega) | (simp; done)) _) | (refine below_drewN ?_ _) | (refine Below.drew ?_) | (refine Below.allocW ?_ _) | (refine Below.alloc ?_ (by first | omega | (simp; omega) | (simp; done)) _)))⟩
        · have F := Lib.hid (show ∀ w, Calls Try.prog 19 #[.int .i64 re, .int .i64 im] w fun e w' => e = .returned (.bool false) ∧ w = w' from fun w => by
            have := ref03_any re im w; rw [show fitB re im = false by simpa using hf] at this; exact this)
          have e : R = false := by
            have e := E.out
            cases R
            · rfl
            · exact absurd (e.1 rfl) (by rintro ⟨_, _, _, _, h5, _⟩; exact hf h5)
          subst e
          clear hf
          go_enter Try.func16, Try.ntmps16
          go_wp2_with fail
          go_quiet ((go_at_call 19; exact (F.out _).mono fun _ _ h => ⟨h.1, _, h.2.symm⟩))
          go_wp2_with fail
          go_ret
          exact ⟨rfl, by exact (by repeat (first | exact Below.refl _ _ | assumption | (refine Below.setCell ?_ (by first | omega | (simp; omega) | (simp; done)) _) | (refine below_drewN ?_ _) | (refine Below.drew ?_) | (refine Below.allocW ?_ _) | (refine Below.alloc ?_ (by first | omega | (simp; omega) | (simp; done)) _)))⟩
  · have e : R = false := by
      have e := E.out
      cases R
      · rfl
      · exact absurd (e.1 rfl) (by rintro ⟨h1, h2, h3, _⟩; exact hr ⟨h1, h2, h3⟩)
    subst e
    go_enter Try.func16, Try.ntmps16
    go_wp2_with fail
    all_goals first
      | (exfalso; omega)
      | (go_ret; exact ⟨rfl, by exact (by repeat (first | exact Below.refl _ _ | assumption | (refine Below.setCell ?_ (by first | omega | (simp; omega) | (simp; done)) _) | (refine below_drewN ?_ _) | (refine Below.drew ?_) | (refine Below.allocW ?_ _) | (refine Below.alloc ?_ (by first | omega | (simp; omega) | (simp; done)) _)))⟩)
end Go.Proofs.Ytedmjckelghpiaa
