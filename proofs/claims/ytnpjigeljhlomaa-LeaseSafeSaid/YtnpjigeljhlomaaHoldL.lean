/- The holder's map beside the reference's lists: plain. -/
import Derived.Test.YtnpjigeljhlomaaHoldV
namespace Go.Proofs.Ytnpjigeljhlomaa
open Go.ChangeShapes Go.WideShapes Go.ChangeAt Go.RowKit Go.Syn Go.Eng
set_option linter.unusedVariables false
set_option linter.unusedSimpArgs false
theorem lk_some {m : List (Int × Int)} {k v : Int} (h : lk m k = some v) : (k, v) ∈ m := by
  unfold lk at h
  obtain ⟨p, h1, h2⟩ := Option.map_eq_some_iff.1 h
  have h3 := List.find?_some h1
  have h4 := List.mem_of_find?_eq_some h1
  have : p.1 = k := by simpa using h3
  subst h2; rw [← this]; exact h4
theorem lk_no {m : List (Int × Int)} {k : Int} (h : lk m k = none) (v : Int) : (k, v) ∉ m := fun hm => by
  unfold lk at h
  have h2 := Option.map_eq_none_iff.1 h
  have := List.find?_eq_none.1 h2 (k, v) hm
  simp at this
theorem putm_mem {m : List (Int × Int)} {k v x L : Int} : (x, L) ∈ putm m k v ↔ (x = k ∧ L = v) ∨ (x ≠ k ∧ (x, L) ∈ m) := by
  unfold putm
  cases h : lk m k with
  | none =>
    simp only [Option.isSome_none, Bool.false_eq_true, if_false, List.mem_append, List.mem_singleton, Prod.mk.injEq]
    constructor
    · rintro (h1 | h1)
      · exact .inr ⟨fun e => lk_no h L (e ▸ h1), h1⟩
      · exact .inl h1
    · rintro (h1 | h1)
      · exact .inr h1
      · exact .inl h1.2
  | some u =>
    simp only [Option.isSome_some, if_true, List.mem_map]
    constructor
    · rintro ⟨p, h1, h2⟩
      by_cases e : p.1 = k
      · rw [if_pos e] at h2
        cases h2; exact .inl ⟨rfl, rfl⟩
      · rw [if_neg e] at h2
        subst h2; exact .inr ⟨e, h1⟩
    · rintro (⟨rfl, rfl⟩ | ⟨h1, h2⟩)
      · exact ⟨(x, u), lk_some h, by simp⟩
      · exact ⟨(x, L), h2, by simp [h1]⟩
theorem putm_len (m : List (Int × Int)) (k v : Int) : (putm m k v).length ≤ m.length + 1 := by
  unfold putm
  split <;> simp
theorem hgrantV_len (ms : List Int) (m : List (Int × Int)) (n t : Int) : (hgrantV ms m n t).length ≤ m.length + 1 := by
  unfold hgrantV
  split
  · split
    · exact putm_len _ _ _
    · omega
  · omega
/-- The map holds of each node the latest time. -/
def Rel (mm ps : List (Int × Int)) : Prop := ∀ x L, (x, L) ∈ mm ↔ IsMax ps x L
theorem Rel.nil : Rel [] [] := fun x L => ⟨fun h => by simp at h, fun h => by have := h.1; simp at this⟩
theorem isMax_app {ps : List (Int × Int)} {n t x L : Int} : IsMax (ps ++ [(n, t)]) x L ↔ (x ≠ n ∧ IsMax ps x L) ∨ (x = n ∧ ((L = t ∧ ∀ t', (n, t') ∈ ps → t' ≤ t) ∨ (IsMax ps n L ∧ t ≤ L))) := by
  unfold IsMax
  simp only [List.mem_append, List.mem_singleton, Prod.mk.injEq]
  constructor
  · rintro ⟨h1, h2⟩
    by_cases e : x = n
    · subst e
      refine .inr ⟨rfl, ?_⟩
      have h3 : t ≤ L := h2 t (.inr ⟨rfl, rfl⟩)
      rcases h1 with h1 | ⟨_, rfl⟩
      · exact .inr ⟨⟨h1, fun t' h => h2 t' (.inl h)⟩, h3⟩
      · exact .inl ⟨rfl, fun t' h => h2 t' (.inl h)⟩
    · refine .inl ⟨e, ?_, fun t' h => h2 t' (.inl h)⟩
      rcases h1 with h1 | h1
      · exact h1
      · exact absurd h1.1 e
  · rintro (⟨e, h1, h2⟩ | ⟨rfl, (⟨rfl, h1⟩ | ⟨⟨h1, h2⟩, h3⟩)⟩)
    · refine ⟨.inl h1, fun t' h => ?_⟩
      rcases h with h | h
      · exact h2 t' h
      · exact absurd h.1 e
    · refine ⟨.inr ⟨rfl, rfl⟩, fun t' h => ?_⟩
      rcases h with h | h
      · exact h1 t' h
      · omega
    · refine ⟨.inl h1, fun t' h => ?_⟩
      rcases h with h | h
      · exact h2 t' h
      · omega
theorem max_ex {ps : List (Int × Int)} {n : Int} : (∀ t, (n, t) ∉ ps) ∨ ∃ L, IsMax ps n L := by
  induction ps with
  | nil => exact .inl (by simp)
  | cons p r ih =>
    obtain ⟨x, t⟩ := p
    by_cases e : x = n
    · subst e
      refine .inr ?_
      rcases ih with ih | ⟨L, hL⟩
      · exact ⟨t, by simp, fun t' h => by
          rcases List.mem_cons.1 h with h | h
          · have : t' = t := (Prod.mk.inj h).2
            omega
          · exact absurd h (ih t')⟩
      · by_cases h : t ≤ L
        · exact ⟨L, List.mem_cons_of_mem _ hL.1, fun t' h2 => by
            rcases List.mem_cons.1 h2 with h2 | h2
            · have : t' = t := (Prod.mk.inj h2).2
              omega
            · exact hL.2 t' h2⟩
        · exact ⟨t, by simp, fun t' h2 => by
            rcases List.mem_cons.1 h2 with h2 | h2
            · have : t' = t := (Prod.mk.inj h2).2
              omega
            · have := hL.2 t' h2; omega⟩
    · rcases ih with ih | ⟨L, hL⟩
      · refine .inl fun t' h => ?_
        rcases List.mem_cons.1 h with h | h
        · exact e (Prod.mk.inj h).1.symm
        · exact ih t' h
      · exact .inr ⟨L, List.mem_cons_of_mem _ hL.1, fun t' h2 => by
          rcases List.mem_cons.1 h2 with h2 | h2
          · exact absurd (Prod.mk.inj h2).1.symm e
          · exact hL.2 t' h2⟩
theorem Rel.grant {mm ps : List (Int × Int)} (H : Rel mm ps) {ms : List Int} {n t : Int} (h : hasB ms n = true) : Rel (hgrantV ms mm n t) (ps ++ [(n, t)]) := by
  intro x L
  rw [isMax_app]
  unfold hgrantV
  rw [if_pos h]
  cases hk : lk mm n with
  | none =>
    have hno : ∀ t', (n, t') ∉ ps := fun t' hm => by
      rcases max_ex (ps := ps) (n := n) with q | ⟨L', q⟩
      · exact q t' hm
      · exact lk_no hk L' ((H n L').2 q)
    rw [if_pos (.inl rfl), putm_mem, H x L]
    constructor
    · rintro (⟨rfl, rfl⟩ | h1)
      · exact .inr ⟨rfl, .inl ⟨rfl, fun t' h => absurd h (hno t')⟩⟩
      · exact .inl h1
    · rintro (h1 | ⟨rfl, (⟨rfl, _⟩ | ⟨h1, _⟩)⟩)
      · exact .inr h1
      · exact .inl ⟨rfl, rfl⟩
      · exact absurd h1.1 (hno L)
  | some u =>
    have hu := (H n u).1 (lk_some hk)
    by_cases hlt : t > u
    · rw [if_pos (.inr hlt), putm_mem, H x L]
      constructor
      · rintro (⟨rfl, rfl⟩ | h1)
        · exact .inr ⟨rfl, .inl ⟨rfl, fun t' h => by have := hu.2 t' h; omega⟩⟩
        · exact .inl h1
      · rintro (h1 | ⟨rfl, (⟨rfl, _⟩ | ⟨h1, h2⟩)⟩)
        · exact .inr h1
        · exact .inl ⟨rfl, rfl⟩
        · have := h1.uniq hu; omega
    · rw [if_neg (by simp [hlt]), H x L]
      constructor
      · intro h1
        by_cases e : x = n
        · subst e
          have := h1.uniq hu
          exact .inr ⟨rfl, .inr ⟨h1, by omega⟩⟩
        · exact .inl ⟨e, h1⟩
      · rintro (h1 | ⟨rfl, (⟨rfl, h1⟩ | ⟨h1, _⟩)⟩)
        · exact h1.2
        · have := h1 u hu.1
          have e : L = u := by omega
          rw [e]; exact hu
        · exact h1
theorem Rel.stand {mm ps : List (Int × Int)} (H : Rel mm ps) (hold now y : Int) : y ∈ standL mm hold now ↔ ∃ L, IsMax ps y L ∧ L ≤ now ∧ now < L + hold := by
  unfold standL
  rw [List.mem_map]
  constructor
  · rintro ⟨⟨x, L⟩, h, rfl⟩
    obtain ⟨h1, h2⟩ := List.mem_filter.1 h
    simp only [decide_eq_true_eq] at h2
    exact ⟨L, (H _ _).1 h1, h2.1, by omega⟩
  · rintro ⟨L, h1, h2, h3⟩
    exact ⟨(y, L), List.mem_filter.2 ⟨(H _ _).2 h1, by simp only [decide_eq_true_eq]; omega⟩, rfl⟩
theorem holdV_in (t r : Int) : 0 ≤ holdV t r ∧ holdV t r ≤ 1048576 := by
  unfold holdV
  by_cases h : rightB t r = true
  · rw [if_pos h]
    obtain ⟨h1, h2, h3, h4⟩ := right_yes h
    have p : 0 ≤ t * (1000 - r) := Int.mul_nonneg h1 (by omega)
    refine ⟨Int.ediv_nonneg p (by omega), ?_⟩
    have : t * (1000 - r) ≤ 1048576 * (1000 + r) := by
      have a1 : t * (1000 - r) ≤ t * (1000 + r) := Int.mul_le_mul_of_nonneg_left (by omega) h1
      have a2 : t * (1000 + r) ≤ 1048576 * (1000 + r) := Int.mul_le_mul_of_nonneg_right h2 (by omega)
      omega
    exact Int.ediv_le_of_le_mul (by omega) this
  · rw [if_neg h]; omega
end Go.Proofs.Ytnpjigeljhlomaa
