/- LeaseSafe, plain: while a lease is alive, its granter bars the rival. -/
import Derived.Test.YtnpjigeljhlomaaHoldL
import Derived.Test.YtnpjigeljhlomaaLease
namespace Go.Proofs.Ytnpjigeljhlomaa
open Go.ChangeShapes Go.WideShapes Go.ChangeAt Go.RowKit Go.Syn Go.Eng
set_option linter.unusedVariables false
set_option linter.unusedSimpArgs false
/-- What is known of a node's grant: it is dead for the holder, or it stands, and its time is bounded. -/
def LsP (rho hold N0 : Int) (mm : List (Int × Int)) (n Nn : Int) (g : GrD) : Prop := ∀ a, (n, a) ∈ mm → a + hold ≤ N0 ∨ (g.stands = true ∧ g.rnd = 1 ∧ g.node = 1 ∧ ∃ d, 0 ≤ d ∧ (1000 - rho) * d ≤ 1000 * (N0 - a) ∧ 1000 * (Nn - g.since) ≤ (1000 + rho) * d)
theorem LsP.pace {rho hold N0 n Nn : Int} {mm : List (Int × Int)} {g : GrD} (h : LsP rho hold N0 mm n Nn g) {t t0 tn : Int} (ht : 0 ≤ t) (h0 : 0 ≤ t0) (k0 : (1000 - rho) * t ≤ 1000 * t0) (kn : 1000 * tn ≤ (1000 + rho) * t) : LsP rho hold (N0 + t0) mm n (Nn + tn) g := fun a ha => by
  rcases h a ha with h | ⟨h1, h2, h3, d, h4, h5, h6⟩
  · exact .inl (by omega)
  · refine .inr ⟨h1, h2, h3, d + t, by omega, ?_, ?_⟩
    · rw [Int.mul_add]; omega
    · rw [Int.mul_add]; omega
theorem hold_le {len rho hold : Int} (hl : 0 ≤ len ∧ len ≤ 63) (hr : 0 ≤ rho ∧ rho ≤ 255) (e : hold = holdV len rho) : 0 ≤ hold ∧ hold * (1000 + rho) ≤ len * (1000 - rho) ∧ hold ≤ 63 := by
  have hy : rightB len rho = true := by unfold rightB; exact decide_eq_true (by omega)
  rw [holdV_yes hy] at e
  have hm : 0 ≤ len * (1000 - rho) := Int.mul_nonneg hl.1 (by omega)
  have h1 : 0 ≤ hold := by rw [e]; exact Int.ediv_nonneg hm (by omega)
  have h2 : hold * (1000 + rho) ≤ len * (1000 - rho) := by rw [e]; exact Int.ediv_mul_le _ (by omega)
  refine ⟨h1, h2, ?_⟩
  have h3 : len * (1000 - rho) ≤ 63 * (1000 - rho) := Int.mul_le_mul_of_nonneg_right hl.2 (by omega)
  have h4 : hold * 1000 ≤ hold * (1000 + rho) := Int.mul_le_mul_of_nonneg_left (by omega) h1
  omega
/-- A lease that is alive: its granter's time is not over. -/
theorem alive_in {len rho hold N0 Nn a s d : Int} (hl : 0 ≤ len ∧ len ≤ 63) (hr : 0 ≤ rho ∧ rho ≤ 255) (e : hold = holdV len rho) (ha : N0 < a + hold) (h5 : (1000 - rho) * d ≤ 1000 * (N0 - a)) (h6 : 1000 * (Nn - s) ≤ (1000 + rho) * d) (hd : 0 ≤ d) : Nn - s < len ∧ 0 < len := by
  obtain ⟨g1, g2, _⟩ := hold_le hl hr e
  have m1 : 0 ≤ (1000 - rho) * d := Int.mul_nonneg (by omega) hd
  have ha2 : 0 ≤ N0 - a := by omega
  have p : 0 < hold := by omega
  have e1 : (1000 - rho) * (1000 * (Nn - s)) ≤ (1000 - rho) * ((1000 + rho) * d) := Int.mul_le_mul_of_nonneg_left h6 (by omega)
  have e2 : (1000 + rho) * ((1000 - rho) * d) ≤ (1000 + rho) * (1000 * (N0 - a)) := Int.mul_le_mul_of_nonneg_left h5 (by omega)
  have e3 : (1000 - rho) * ((1000 + rho) * d) = (1000 + rho) * ((1000 - rho) * d) := by rw [← Int.mul_assoc, ← Int.mul_assoc, Int.mul_comm (1000 - rho)]
  have e4 : (1000 + rho) * (1000 * (N0 - a)) < 1000 * (len * (1000 - rho)) := by
    have q1 : (1000 + rho) * (N0 - a) ≤ (1000 + rho) * (hold - 1) := Int.mul_le_mul_of_nonneg_left (by omega) (by omega)
    have q2 : (1000 + rho) * (hold - 1) = hold * (1000 + rho) - (1000 + rho) := by rw [Int.mul_sub, Int.mul_one, Int.mul_comm]
    have q3 : (1000 + rho) * (1000 * (N0 - a)) = 1000 * ((1000 + rho) * (N0 - a)) := by rw [← Int.mul_assoc, Int.mul_comm (1000 + rho) 1000, Int.mul_assoc]
    omega
  have e5 : (1000 - rho) * (1000 * (Nn - s)) = 1000 * ((1000 - rho) * (Nn - s)) := by rw [← Int.mul_assoc, Int.mul_comm (1000 - rho) 1000, Int.mul_assoc]
  have e6 : (1000 - rho) * (Nn - s) < (1000 - rho) * len := by rw [Int.mul_comm (1000 - rho) len]; omega
  refine ⟨Int.lt_of_mul_lt_mul_left e6 (by omega), ?_⟩
  have : 0 < hold * (1000 + rho) := Int.mul_pos p (by omega)
  rcases Int.lt_or_le 0 len with q | q
  · exact q
  · have : len = 0 := by omega
    subst this; omega
theorem LsP.live {len rho hold N0 n Nn : Int} {mm : List (Int × Int)} {g : GrD} (h : LsP rho hold N0 mm n Nn g) (hl : 0 ≤ len ∧ len ≤ 63) (hr : 0 ≤ rho ∧ rho ≤ 255) (e : hold = holdV len rho) (hg : g.length = len) {a : Int} (hm : (n, a) ∈ mm) (ha : N0 < a + hold) :
    barsV g Nn = overV g Nn ∧ barsB g 2 2 Nn = true ∧ (overV g Nn).stands = true ∧ (overV g Nn).rnd = 1 ∧ (overV g Nn).node = 1 ∧ ∃ d, 0 ≤ d ∧ (1000 - rho) * d ≤ 1000 * (N0 - a) ∧ 1000 * (Nn - (overV g Nn).since) ≤ (1000 + rho) * d := by
  rcases h a hm with h | ⟨h1, h2, h3, d, h4, h5, h6⟩
  · omega
  have hlen : (overV g Nn).length = len := by unfold overV; split <;> exact hg
  have ov : (overV g Nn).stands = true ∧ (overV g Nn).rnd = 1 ∧ (overV g Nn).node = 1 ∧ 1000 * (Nn - (overV g Nn).since) ≤ (1000 + rho) * d := by
    unfold overV
    split
    · refine ⟨h1, h2, h3, ?_⟩
      have : 0 ≤ (1000 + rho) * d := Int.mul_nonneg (by omega) h4
      show 1000 * (Nn - Nn) ≤ _
      omega
    · exact ⟨h1, h2, h3, h6⟩
  obtain ⟨q1, q2⟩ := alive_in (s := (overV g Nn).since) hl hr e ha h5 ov.2.2.2 h4
  have hob : overB g Nn = false := by unfold overB; exact decide_eq_false (by rw [hlen]; omega)
  have hn : ¬ (g.length = 0 ∨ g.stands = false) := fun q => by
    rcases q with q | q
    · omega
    · rw [h1] at q; cases q
  refine ⟨by unfold barsV; rw [if_neg hn, hob]; rfl, ?_, ov.1, ov.2.1, ov.2.2.1, d, h4, h5, ov.2.2.2⟩
  unfold barsB
  rw [if_neg hn, hob, if_neg (by decide), h2, h3]; rfl
theorem barsV_len (g : GrD) (t : Int) : (barsV g t).length = g.length := by
  unfold barsV overV
  split
  · rfl
  · split <;> split <;> rfl
theorem grantV_len (g : GrD) (r n t : Int) : (grantV g r n t).length = g.length := by
  unfold grantV
  split
  · rfl
  · exact barsV_len g t
theorem LsP.bars {len rho hold N0 n Nn : Int} {mm : List (Int × Int)} {g : GrD} (h : LsP rho hold N0 mm n Nn g) (hl : 0 ≤ len ∧ len ≤ 63) (hr : 0 ≤ rho ∧ rho ≤ 255) (e : hold = holdV len rho) (hg : g.length = len) : LsP rho hold N0 mm n Nn (barsV g Nn) := fun a ha => by
  by_cases hd : a + hold ≤ N0
  · exact .inl hd
  · obtain ⟨q1, _, q2⟩ := h.live hl hr e hg ha (by omega)
    rw [q1]; exact .inr q2
theorem LsP.grant {len rho hold N0 n Nn : Int} {mm : List (Int × Int)} {g : GrD} (h : LsP rho hold N0 mm n Nn g) (hl : 0 ≤ len ∧ len ≤ 63) (hr : 0 ≤ rho ∧ rho ≤ 255) (e : hold = holdV len rho) (hg : g.length = len) : LsP rho hold N0 mm n Nn (grantV g 1 1 Nn) := by
  unfold grantV
  split
  · intro a ha
    rcases h a ha with h | ⟨h1, h2, h3, d, h4, h5, h6⟩
    · exact .inl h
    · refine .inr ⟨rfl, rfl, rfl, d, h4, h5, ?_⟩
      have : 0 ≤ (1000 + rho) * d := Int.mul_nonneg (by omega) h4
      show 1000 * (Nn - Nn) ≤ _
      omega
  · exact h.bars hl hr e hg
theorem hgrant_mem {ms : List Int} {mm : List (Int × Int)} {n t x a : Int} (h : (x, a) ∈ hgrantV ms mm n t) : (x = n ∧ a = t) ∨ (x, a) ∈ mm := by
  unfold hgrantV at h
  split at h
  · split at h
    · rcases putm_mem.1 h with h | h
      · exact .inl h
      · exact .inr h.2
    · exact .inr h
  · exact .inr h
theorem LsP.other {rho hold N0 n Nn k t : Int} {ms : List Int} {mm : List (Int × Int)} {g : GrD} (h : LsP rho hold N0 mm n Nn g) (hk : n ≠ k) : LsP rho hold N0 (hgrantV ms mm k t) n Nn g := fun a ha => by
  rcases hgrant_mem ha with q | q
  · exact absurd q.1 hk
  · exact h a q
theorem LsP.told {rho hold N0 n Nn : Int} {ms : List Int} {mm : List (Int × Int)} {g : GrD} (h : LsP rho hold N0 mm n Nn g) (hr : 0 ≤ rho ∧ rho ≤ 255) (hg : grantB g 1 1 Nn = true) : LsP rho hold N0 (hgrantV ms mm n N0) n Nn (grantV g 1 1 Nn) := by
  have e : grantV g 1 1 Nn = ⟨g.length, Nn, 1, 1, true⟩ := by unfold grantV; rw [if_pos hg]
  rw [e]
  intro a ha
  rcases hgrant_mem ha with q | q
  · refine .inr ⟨rfl, rfl, rfl, 0, Int.le_refl _, ?_, ?_⟩
    · rw [q.2]; omega
    · show 1000 * (Nn - Nn) ≤ _
      omega
  · rcases h a q with h | ⟨h1, h2, h3, d, h4, h5, h6⟩
    · exact .inl h
    · refine .inr ⟨rfl, rfl, rfl, d, h4, h5, ?_⟩
      have : 0 ≤ (1000 + rho) * d := Int.mul_nonneg (by omega) h4
      show 1000 * (Nn - Nn) ≤ _
      omega
theorem stand_mem {mm : List (Int × Int)} {hold now y : Int} (h : y ∈ standL mm hold now) : ∃ a, (y, a) ∈ mm ∧ now < a + hold := by
  unfold standL at h
  obtain ⟨p, hp, rfl⟩ := List.mem_map.1 h
  obtain ⟨h1, h2⟩ := List.mem_filter.1 hp
  have := of_decide_eq_true h2
  exact ⟨p.2, h1, by omega⟩
/-- Of three, two quorums share one. -/
theorem three {A B : List Int} (h : ∀ x, x ∈ A → x ∈ B → False) : ¬ (enoughB [1, 2, 3] A = true ∧ enoughB [1, 2, 3] B = true) := by
  rintro ⟨h1, h2⟩
  have k1 := (of_decide_eq_true h1).2
  have k2 := (of_decide_eq_true h2).2
  have e : ∀ S : List Int, inCount [1, 2, 3] S = (hasB S 1).toNat + (hasB S 2).toNat + (hasB S 3).toNat := fun S => by
    unfold inCount
    simp only [List.countP_cons, List.countP_nil]
    cases hasB S 1 <;> cases hasB S 2 <;> cases hasB S 3 <;> rfl
  have n : ∀ x : Int, (hasB A x).toNat + (hasB B x).toNat ≤ 1 := fun x => by
    cases hA : hasB A x <;> cases hB : hasB B x <;> simp
    exact h x (hasB_iff.1 hA) (hasB_iff.1 hB)
  rw [e] at k1 k2
  have q : quorumV [1, 2, 3] = 2 := by decide
  rw [q] at k1 k2
  have n1 := n 1
  have n2 := n 2
  have n3 := n 3
  omega
end Go.Proofs.Ytnpjigeljhlomaa
