/- The walk of the law ElectionQuiet. -/
import Derived.Test.YtdjjiamiiglepaaElHead
import Derived.Test.YtdjjiamiiglepaaMask
namespace Go.Proofs.Ytdjjiamiiglepaa
open Go.ChangeShapes Go.WideShapes Go.ChangeAt Go.RowKit Go.Syn
set_option linter.unusedVariables false
set_option linter.unusedSimpArgs false

/-- A timer ahead of second k: it has heard the leader so lately. -/
def QuietAt (B M r : Int) (k : Nat) (s : Tm) : Prop :=
  s.ok ∧ s.me = 1 ∧ s.base = B ∧ s.wait = B ∧ s.since ≤ k ∧ s.round ≤ r ∧ (0 < k → s.round = r ∧ (k : Int) - 1 - s.since = ((k : Int) - 1) % (B - 1))

theorem tick_early {xs : List Int} {s : Tm} {now : Int} (h0 : s.since ≤ now) (h : now - s.since < s.wait) : tmTick xs s now = (s, false) := by
  have e : tickSince s now = s.since := by unfold tickSince; rw [if_neg (by omega)]
  by_cases hr : 1099511627776 ≤ s.round
  · unfold tmTick; rw [if_pos hr]
  · unfold tmTick; rw [if_neg hr, e, if_pos h]
theorem quiet_heard {B M r : Int} {k : Nat} {s : Tm} (hB : 2 ≤ B) (hB2 : B ≤ 17) (h : QuietAt B M r k s) (h1 : 1 ≤ r) (h2 : r ≤ 1099511627776) (hk : k ≤ 600) (hz : (k : Int) % (B - 1) = 0) :
    heardB s r = true ∧ (tmTick [1, 2, 3] (tmHeard s r k) k).2 = false ∧ (tmTick [1, 2, 3] (tmHeard s r k) k).1.round = r ∧ QuietAt B M r (k + 1) (tmTick [1, 2, 3] (tmHeard s r k) k).1 := by
  obtain ⟨ok, q1, q2, q3, q4, q5, q6⟩ := h
  have hb : heardB s r = true := by simp [heardB]; omega
  have e : tmHeard s r k = ⟨s.me, s.base, s.most, s.base, k, r⟩ := by unfold tmHeard; rw [if_pos hb]
  have hok := heard_ok (r := r) (now := (k : Int)) ok ⟨by omega, by omega⟩
  rw [e] at hok ⊢
  have e2 : tmTick [1, 2, 3] ⟨s.me, s.base, s.most, s.base, k, r⟩ k = (⟨s.me, s.base, s.most, s.base, k, r⟩, false) := tick_early (by simp) (by dsimp only; omega)
  rw [e2]
  refine ⟨hb, rfl, rfl, hok, q1, q2, q2, by push_cast; omega, by simp, fun _ => ⟨rfl, ?_⟩⟩
  push_cast
  rw [show (k : Int) + 1 - 1 = k by omega, hz]; omega
theorem quiet_still {B M r : Int} {k : Nat} {s : Tm} (hB : 2 ≤ B) (hB2 : B ≤ 17) (h : QuietAt B M r k s) (h1 : 1 ≤ r) (h2 : r ≤ 1099511627776) (hk : k ≤ 600) (hz : ¬ (k : Int) % (B - 1) = 0) :
    (tmTick [1, 2, 3] s k).2 = false ∧ (tmTick [1, 2, 3] s k).1.round = r ∧ QuietAt B M r (k + 1) (tmTick [1, 2, 3] s k).1 := by
  obtain ⟨ok, q1, q2, q3, q4, q5, q6⟩ := h
  have h0 : 0 < k := by
    rcases Nat.eq_zero_or_pos k with rfl | h
    · simp at hz
    · exact h
  obtain ⟨q6, q7⟩ := q6 h0
  have n0 := Int.emod_nonneg ((k : Int) - 1) (b := B - 1) (by omega)
  have n1 := Int.emod_lt_of_pos ((k : Int) - 1) (b := B - 1) (by omega)
  have n2 : (k : Int) % (B - 1) = ((k : Int) - 1) % (B - 1) + 1 := by
    have d := Int.emod_add_mul_ediv ((k : Int) - 1) (B - 1)
    have e : (k : Int) = (((k : Int) - 1) % (B - 1) + 1) + (B - 1) * (((k : Int) - 1) / (B - 1)) := by omega
    have e2 : (k : Int) % (B - 1) = (((k : Int) - 1) % (B - 1) + 1) % (B - 1) := by
      rw [Int.emod_eq_emod_iff_emod_sub_eq_zero]
      have : (k : Int) - (((k : Int) - 1) % (B - 1) + 1) = (B - 1) * (((k : Int) - 1) / (B - 1)) := by omega
      rw [this]; exact Int.mul_emod_right _ _
    by_cases hl : ((k : Int) - 1) % (B - 1) + 1 < B - 1
    · rw [e2, Int.emod_eq_of_lt (by omega) hl]
    · exfalso; apply hz; rw [e2, show ((k : Int) - 1) % (B - 1) + 1 = B - 1 by omega]; exact Int.emod_self
  have n3 := Int.emod_lt_of_pos (k : Int) (b := B - 1) (by omega)
  have e2 : tmTick [1, 2, 3] s k = (s, false) := tick_early (by omega) (by omega)
  rw [e2]
  refine ⟨rfl, q6, ok, q1, q2, q3, by show s.since ≤ _; push_cast; omega, q5, fun _ => ⟨q6, ?_⟩⟩
  push_cast
  rw [show (k : Int) + 1 - 1 = k by omega]; omega

set_option maxHeartbeats 2000000 in
set_option maxRecDepth 100000 in
theorem quiet_walk (base most round steps : Int) (w : World) (ib : I64 base) (im : I64 most) (ir : I64 round) (is : I64 steps) :
    Calls Try.prog 4 #[.int .i64 base, .int .i64 most, .int .i64 round, .int .i64 steps] w fun e w' => e = .returned (.bool true) ∧ Below w.heap.size w w' := by
  have W1 : wrap64 (2 + bits .and .i64 base 15) = 2 + base % 16 := by rw [mask_15]; unfold wrap64; omega
  have M2 := mask_511 steps
  have hB2 : 2 ≤ 2 + base % 16 := by omega
  have hB3 : 2 + base % 16 ≤ 17 := by omega
  have n1 : 0 ≤ steps % 512 := by omega
  have n2 : steps % 512 < 512 := by omega
  generalize 2 + base % 16 = B at *
  generalize steps % 512 = n at *
  have S0 := Lib.hid (newTm_ok 1 B most 0 ⟨by omega, by omega⟩)
  have S1 := Lib.hid (show QuietAt B most round 0 (newTm 1 B most 0) ∨ round < 0 from by
    rcases Int.lt_or_le round 0 with h | h
    · exact Or.inr h
    · refine Or.inl ⟨S0.out, rfl, ?_, ?_, ?_, h, by simp⟩
      · unfold newTm; dsimp only; omega
      · unfold newTm; dsimp only; omega
      · unfold newTm; dsimp only; omega)
  have R0 := Lib.hid (show (newTm 1 B most 0).round = 0 from rfl)
  go_enter Try.func4, Try.ntmps4
  go_wp2_with fail
  refine (head_any _).mono ?_; rintro e w1 ⟨rfl, hb1⟩
  go_wp2_with fail
  rw [W1]
  clear W1
  have I0 : Ints (w1.alloc (.cells #[.int .i64 1, .int .i64 2, .int .i64 3] 3)) (some ⟨w1.heap.size, 0, none⟩) [1, 2, 3] :=
    Ints.lit w1 [1, 2, 3] 3 (by simp) (by simp [I64]) _ (Below.refl _ _)
  refine (new_any _ _ [1, 2, 3] 1 B most 0 _ I0 (by decide)).mono ?_
  rintro e w2 ⟨b, ma, mc, rfl, T2, b2, hbb, _, hmb, hb⟩
  have hw2 : Below w.heap.size w w2 := hb1.trans ((Below.step (W := w1) (by repeat (first | exact Below.refl _ _ | assumption | (refine Below.setCell ?_ (by first | omega | (simp; omega) | (simp; done)) _) | (refine below_drewN ?_ _) | (refine Below.drew ?_) | (refine Below.allocW ?_ _) | (refine Below.alloc ?_ (by first | omega | (simp; omega) | (simp; done)) _))) b2).mono hb1.size)
  have hbw : w.heap.size ≤ b := by have := hb1.size; simp at hbb; omega
  clear b2 I0 hbb hb1
  by_cases hr : round < 1 ∨ 1099511627776 < round
  · have hF : heardB (newTm 1 B most 0) round = false := by unfold heardB; rw [decide_eq_false_iff_not]; omega
    go_wp2_with fail
    all_goals first
      | (exfalso; omega)
      | (refine (heard_any _ _ _ _ _ round 0 _ T2).mono ?_
         rintro e w3 ⟨rfl, T3, g3⟩
         rw [hF]
         have hw3 := below_grown hw2 g3 hbw
         clear g3 T3 T2 hw2
         go_wp2_with fail
         go_ret
         exact ⟨rfl, hw3⟩)
  · have hr1 : 1 ≤ round := by omega
    have hr2 : round ≤ 1099511627776 := by omega
    have S2 := Lib.hid (S1.out.resolve_right (by omega))
    clear S1 S0 R0 hr
    have Q1 := Lib.hid (fun (k : Nat) s => quiet_heard (B := B) (M := most) (r := round) (k := k) (s := s) hB2 hB3)
    have Q2 := Lib.hid (fun (k : Nat) s => quiet_still (B := B) (M := most) (r := round) (k := k) (s := s) hB2 hB3)
    have T0 := Lib.hid T2; clear T2
    have H2 := Lib.hid hw2; clear hw2
    go_wp2_with fail
    go_loopw [10] (fun x wr => ∃ (k : Nat) (s : Tm), x = .int .i64 k ∧ k ≤ 512 ∧ Hid (Tmr wr b ma mc [1, 2, 3] s) ∧ Hid (QuietAt B most round k s) ∧ Hid (Below w.heap.size w wr)) (fun x _ => 512 - (intOf x).toNat)
    case atStart => exact ⟨0, _, rfl, by omega, T0, S2, H2⟩
    case round =>
      obtain ⟨k, s, rfl, hk, TK, QK, HK⟩ := hrel
      by_cases hkn : (k : Int) < n
      · have ik : I64 (k : Int) := ⟨by omega, by omega⟩
        by_cases hz : (k : Int) % (B - 1) = 0
        · obtain ⟨A1, A2, A3, A4⟩ := Q1.out k s QK.out hr1 hr2 (by omega) hz
          replace A2 := Lib.hid A2; replace A3 := Lib.hid A3; replace A4 := Lib.hid A4
          have okH := Lib.hid (heard_ok (r := round) QK.out.1 ik)
          go_wp2_with fail
          refine (heard_any _ _ _ _ _ round k _ TK.out).mono ?_
          rintro e w3 ⟨rfl, T3, g3⟩
          rw [A1]
          replace T3 := Lib.hid T3
          have H3 := Lib.hid (below_grown HK.out g3 hbw)
          clear g3 A1
          go_wp2_with fail
          refine (tick_any _ _ _ _ _ k _ T3.out okH.out ik).mono ?_
          rintro e w4 ⟨rfl, T4, g4⟩
          rw [A2.out]
          have H4 := Lib.hid (below_grown H3.out g4 hbw)
          replace T4 := Lib.hid T4
          clear g4
          go_wp2_with fail
          refine (round_any _ _ _ _ _ _ T4.out).mono ?_
          rintro e w' ⟨rfl, rfl⟩
          rw [A3.out]
          go_wp2_with fail
          go_roundw
          case rel => exact ⟨k + 1, _, rfl, by omega, T4, A4, H4⟩
          case measure => simp [intOf]; omega
        · obtain ⟨A2, A3, A4⟩ := Q2.out k s QK.out hr1 hr2 (by omega) hz
          replace A2 := Lib.hid A2; replace A3 := Lib.hid A3; replace A4 := Lib.hid A4
          go_wp2_with fail
          refine (tick_any _ _ _ _ _ k _ TK.out QK.out.1 ik).mono ?_
          rintro e w4 ⟨rfl, T4, g4⟩
          rw [A2.out]
          have H4 := Lib.hid (below_grown HK.out g4 hbw)
          replace T4 := Lib.hid T4
          clear g4
          go_wp2_with fail
          refine (round_any _ _ _ _ _ _ T4.out).mono ?_
          rintro e w' ⟨rfl, rfl⟩
          rw [A3.out]
          go_wp2_with fail
          go_roundw
          case rel => exact ⟨k + 1, _, rfl, by omega, T4, A4, H4⟩
          case measure => simp [intOf]; omega
      · go_wp2_with fail
        go_ret
        exact ⟨rfl, HK.out⟩
end Go.Proofs.Ytdjjiamiiglepaa
