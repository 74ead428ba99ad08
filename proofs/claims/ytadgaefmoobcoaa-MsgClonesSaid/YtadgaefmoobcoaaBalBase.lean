/- Sets of members, leaders and next ballots as plain functions, and their laws. No program in sight. -/
import Derived.Test.YtadgaefmoobcoaaLibG
namespace Go.Syn
open Go.RowKit
set_option linter.unusedVariables false

/-- The first place of a number in a list; -1: there is none. -/
def idx (xs : List Int) (v : Int) : Int := match xs.findIdx? (· == v) with | some i => i | none => -1

theorem idx_hit (xs : List Int) (v : Int) (k : Nat) (hk : k < xs.length) (hn : ∀ j, j < k → xs.getD j 0 ≠ v) (h : xs.getD k 0 = v) : idx xs v = k := by
  have : xs.findIdx? (· == v) = some k := by
    rw [List.findIdx?_eq_some_iff_getElem]
    refine ⟨hk, by simpa [List.getD, hk] using h, fun j hj => ?_⟩
    have := hn j hj
    simpa [List.getD, Nat.lt_trans hj hk] using this
  simp [idx, this]
theorem idx_miss (xs : List Int) (v : Int) (hn : ∀ j, j < xs.length → xs.getD j 0 ≠ v) : idx xs v = -1 := by
  have : xs.findIdx? (· == v) = none := by
    rw [List.findIdx?_eq_none_iff]
    intro x hx
    obtain ⟨j, hj, rfl⟩ := List.getElem_of_mem hx
    have := hn j hj
    simpa [List.getD, hj] using this
  simp [idx, this]

theorem getD_mem {xs : List Int} {k : Nat} (hk : k < xs.length) : xs.getD k 0 ∈ xs := by
  have e : xs.getD k 0 = xs[k] := by simp [List.getD, hk]
  rw [e]; exact List.getElem_mem _
theorem mem_getD {xs : List Int} {v : Int} (h : v ∈ xs) : ∃ k, k < xs.length ∧ xs.getD k 0 = v := by
  obtain ⟨j, hj, rfl⟩ := List.getElem_of_mem h
  exact ⟨j, hj, by simp [List.getD, hj]⟩

/-- What idx is. -/
theorem idx_cases (xs : List Int) (v : Int) : (idx xs v = -1 ∧ v ∉ xs) ∨ ∃ k : Nat, k < xs.length ∧ idx xs v = k ∧ xs.getD k 0 = v ∧ ∀ j, j < k → xs.getD j 0 ≠ v := by
  cases h : xs.findIdx? (· == v) with
  | none =>
    left
    refine ⟨by simp [idx, h], fun hm => ?_⟩
    rw [List.findIdx?_eq_none_iff] at h
    simpa using h v hm
  | some k =>
    right
    rw [List.findIdx?_eq_some_iff_getElem] at h
    obtain ⟨hk, h1, h2⟩ := h
    have e : xs.getD k 0 = v := by simpa [List.getD, hk] using h1
    have n : ∀ j, j < k → xs.getD j 0 ≠ v := fun j hj => by
      have := h2 j hj
      simpa [List.getD, Nat.lt_trans hj hk] using this
    exact ⟨k, hk, idx_hit xs v k hk n e, e, n⟩

/-- Whether a number stands in a list. -/
def hasB (xs : List Int) (v : Int) : Bool := decide (v ∈ xs)
theorem hasB_eq (xs : List Int) (v : Int) : hasB xs v = decide (v ∈ xs) := rfl
theorem hasB_iff {xs : List Int} {v : Int} : hasB xs v = true ↔ v ∈ xs := by simp [hasB]
theorem hasB_idx (xs : List Int) (v : Int) : decide (0 ≤ idx xs v) = hasB xs v := by
  rw [hasB_eq]
  rcases idx_cases xs v with ⟨h, hn⟩ | ⟨k, hk, h, e, _⟩
  · rw [h]; simp [hn]
  · have : v ∈ xs := by rw [← e]; exact getD_mem hk
    rw [h]; simp [this]

/-- How many of a set stand in a list. -/
def inCount (ms nodes : List Int) : Nat := ms.countP fun m => hasB nodes m
theorem inCount_le (ms nodes : List Int) : inCount ms nodes ≤ ms.length := List.countP_le_length
theorem take_succ_getD (xs : List Int) (k : Nat) (h : k < xs.length) : xs.take (k + 1) = xs.take k ++ [xs.getD k 0] := by
  rw [List.take_succ_eq_append_getElem h]; simp [List.getD, h]
theorem inCount_succ (ms nodes : List Int) (k : Nat) (h : k < ms.length) : inCount (ms.take (k + 1)) nodes = inCount (ms.take k) nodes + if hasB nodes (ms.getD k 0) then 1 else 0 := by
  rw [take_succ_getD ms k h]; simp [inCount, List.countP_append, List.countP_cons]

def quorumV (ms : List Int) : Int := ms.length / 2 + 1
def enoughB (ms nodes : List Int) : Bool := decide (0 < ms.length ∧ quorumV ms ≤ inCount ms nodes)

/-- What stands ahead of a place. -/
def prevOf (xs : List Int) (i : Nat) : Int := if i = 0 then 0 else xs.getD (i - 1) 0
def goodAt (xs : List Int) (i : Nat) : Prop := prevOf xs i < xs.getD i 0 ∧ xs.getD i 0 ≤ 9
instance (xs : List Int) (i : Nat) : Decidable (goodAt xs i) := inferInstanceAs (Decidable (_ ∧ _))
/-- A right set of members. -/
def SetOk (xs : List Int) : Prop := 1 ≤ xs.length ∧ xs.length ≤ 7 ∧ ∀ i, i < xs.length → goodAt xs i
instance (xs : List Int) : Decidable (SetOk xs) := inferInstanceAs (Decidable (_ ∧ _ ∧ _))
def setOkB (xs : List Int) : Bool := decide (SetOk xs)
theorem setOkB_iff {xs : List Int} : setOkB xs = true ↔ SetOk xs := by simp [setOkB]
def checkV (xs : List Int) : Int := if setOkB xs then 0 else 24

theorem prevOf_succ (xs : List Int) (k : Nat) : prevOf xs (k + 1) = xs.getD k 0 := by simp [prevOf]
theorem good_pos {xs : List Int} {k : Nat} (h : ∀ i, i < k → goodAt xs i) : 0 ≤ prevOf xs k := by
  induction k with
  | zero => simp [prevOf]
  | succ k ih =>
    have := ih fun i hi => h i (by omega)
    have g := (h k (by omega)).1
    rw [prevOf_succ]; omega
theorem SetOk.range {xs : List Int} (h : SetOk xs) {k : Nat} (hk : k < xs.length) : 1 ≤ xs.getD k 0 ∧ xs.getD k 0 ≤ 9 := by
  have := good_pos (k := k) fun i hi => h.2.2 i (by omega)
  have g := h.2.2 k hk
  unfold goodAt at g; omega
theorem SetOk.mono {xs : List Int} (h : SetOk xs) {j k : Nat} (hjk : j < k) (hk : k < xs.length) : xs.getD j 0 < xs.getD k 0 := by
  induction k with
  | zero => omega
  | succ k ih =>
    have g := (h.2.2 (k + 1) hk).1
    rw [prevOf_succ] at g
    by_cases e : j = k
    · subst e; exact g
    · have := ih (by omega) (by omega); omega
theorem SetOk.inj {xs : List Int} (h : SetOk xs) {j k : Nat} (hj : j < xs.length) (hk : k < xs.length) (e : xs.getD j 0 = xs.getD k 0) : j = k := by
  rcases Nat.lt_trichotomy j k with c | c | c
  · have := h.mono c hk; omega
  · exact c
  · have := h.mono c hj; omega
theorem SetOk.idx_at {xs : List Int} (h : SetOk xs) {k : Nat} (hk : k < xs.length) : idx xs (xs.getD k 0) = k :=
  idx_hit xs _ k hk (fun j hj e => by have := h.inj (by omega) hk e; omega) rfl

/-- Whose turn a round is. -/
def leaderV (xs : List Int) (round : Int) : Int := if xs.length = 0 ∨ round < 1 then 0 else xs.getD ((round - 1) % xs.length).toNat 0
theorem leaderV_at {xs : List Int} {round : Int} (h0 : 0 < xs.length) (h1 : 1 ≤ round) : leaderV xs round = xs.getD ((round - 1) % xs.length).toNat 0 := by
  unfold leaderV; rw [if_neg (by omega)]

theorem emod_le' {r : Int} {l : Nat} (h : 0 ≤ r) : r % l ≤ r := by
  rw [Int.emod_def]
  have := Int.mul_nonneg (show (0 : Int) ≤ l by omega) (Int.ediv_nonneg h (show (0 : Int) ≤ l by omega))
  omega

/-- The least round above another one, in which place i has its turn. -/
def nextR (len : Nat) (r : Int) (i : Int) : Int := if r - r % len + i + 1 ≤ r then r - r % len + i + 1 + len else r - r % len + i + 1
/-- The round of the next ballot, and the error. -/
def nextV (xs : List Int) (r node : Int) : Int × Int × Int :=
  if idx xs node < 0 ∨ 7 < xs.length ∨ r < 0 ∨ 1099511627776 < r then (0, 0, 1)
  else if 1099511627776 < nextR xs.length r (idx xs node) then (0, 0, 27) else (nextR xs.length r (idx xs node), node, 0)

theorem nextR_spec {len : Nat} {r i : Int} (hl : 0 < len) (h0 : 0 ≤ i) (h1 : i < len) : r < nextR len r i ∧ nextR len r i ≤ r + len ∧ (nextR len r i - 1) % len = i := by
  have a := Int.emod_nonneg r (b := len) (by omega)
  have b := Int.emod_lt_of_pos r (b := len) (by omega)
  have c : (len : Int) ∣ r - r % len := ⟨r / len, by rw [Int.emod_def]; omega⟩
  obtain ⟨q, hq⟩ := c
  unfold nextR
  split
  · refine ⟨by omega, by omega, ?_⟩
    have : r - r % len + i + 1 + len - 1 = i + len * (q + 1) := by rw [hq, Int.mul_add]; omega
    rw [this, Int.add_mul_emod_self_left]
    exact Int.emod_eq_of_lt h0 h1
  · refine ⟨by omega, by omega, ?_⟩
    have : r - r % len + i + 1 - 1 = i + len * q := by rw [hq]; omega
    rw [this, Int.add_mul_emod_self_left]
    exact Int.emod_eq_of_lt h0 h1

/-- No round between has that turn. -/
theorem nextR_least {len : Nat} {r i s : Int} (hl : 0 < len) (h0 : 0 ≤ i) (h1 : i < len) (hs : r < s) (hs2 : s < nextR len r i) : (s - 1) % len ≠ i := by
  obtain ⟨a, b, c⟩ := nextR_spec (r := r) hl h0 h1
  intro e
  have e2 : (nextR len r i - 1 - (s - 1)) % len = 0 := by rw [Int.sub_emod, c, e]; simp
  obtain ⟨q, hq⟩ := Int.dvd_of_emod_eq_zero e2
  have : 0 < (len : Int) * q := by omega
  have : (len : Int) * q < len * 1 := by omega
  have q1 : q < 1 := Int.lt_of_mul_lt_mul_left this (by omega)
  have q2 : 0 < q := by
    rcases Int.lt_or_le 0 q with h | h
    · exact h
    · have := Int.mul_le_mul_of_nonneg_left h (show (0 : Int) ≤ len by omega); simp at this; omega
  omega

theorem countP_both (p q : Int → Bool) (l : List Int) : l.countP p + l.countP q ≤ l.length + l.countP fun x => p x && q x := by
  induction l with
  | nil => simp
  | cons a l ih =>
    simp only [List.countP_cons, List.length_cons]
    cases p a <;> cases q a <;> simp <;> omega

/-- Two lists of nodes that are enough share a member. -/
theorem enough_meets {ms a b : List Int} (ha : enoughB ms a = true) (hb : enoughB ms b = true) : ∃ x, x ∈ ms ∧ x ∈ a ∧ x ∈ b := by
  unfold enoughB quorumV inCount at ha hb
  replace ha := of_decide_eq_true ha
  replace hb := of_decide_eq_true hb
  have h := countP_both (fun m => hasB a m) (fun m => hasB b m) ms
  have : 0 < ms.countP fun x => hasB a x && hasB b x := by omega
  obtain ⟨x, hx, h2⟩ := List.countP_pos_iff.1 this
  simp only [Bool.and_eq_true, hasB_iff] at h2
  exact ⟨x, hx, h2.1, h2.2⟩

def cmpV (a b : Int) : Int := if a < b then -1 else if b < a then 1 else 0
def firstNZ : List Int → Int | [] => 0 | x :: r => if x = 0 then firstNZ r else x
theorem firstNZ_drop (xs : List Int) (k : Nat) (h : k < xs.length) (h0 : xs.getD k 0 = 0) : firstNZ (xs.drop k) = firstNZ (xs.drop (k + 1)) := by
  rw [List.drop_eq_getElem_cons h, firstNZ]
  have : xs[k] = 0 := by simpa [List.getD, h] using h0
  simp [this]
theorem firstNZ_hit (xs : List Int) (k : Nat) (h : k < xs.length) (h0 : xs.getD k 0 ≠ 0) : firstNZ (xs.drop k) = xs.getD k 0 := by
  have e : xs.getD k 0 = xs[k] := by simp [List.getD, h]
  rw [List.drop_eq_getElem_cons h, firstNZ, if_neg (by rw [← e]; exact h0), e]
def compareV (r n s m : Int) : Int := if cmpV r s = 0 then cmpV n m else cmpV r s
def belowB (r n s m : Int) : Bool := decide (r < s ∨ r = s ∧ n < m)
def balB (r n : Int) : Bool := decide (1 ≤ r ∧ r ≤ 1099511627776 ∧ 1 ≤ n ∧ n ≤ 9)

end Go.Syn
