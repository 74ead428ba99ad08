/- Numbers as bytes: plain laws. No program in sight. -/
import Derived.Test.YtadgaefmoobcoaaEng28
namespace Go.Eng
set_option linter.unusedVariables false
set_option linter.unusedSimpArgs false
def blen (u : Nat) : Nat := if u = 0 then 0 else u.log2 + 1
def nlen (u : Nat) : Nat := (blen u + 7) / 8
/-- The last n digits to the base 256. -/
def digs : Nat → Nat → List Int
  | 0, _ => []
  | n + 1, u => digs n (u / 256) ++ [((u % 256 : Nat) : Int)]
def numB (u : Nat) : List Int := (nlen u : Int) :: digs (nlen u) u
def Byt (bs : List Int) : Prop := ∀ b ∈ bs, 0 ≤ b ∧ b < 256
def valB (ds : List Int) : Nat := ds.foldl (fun a d => 256 * a + d.toNat) 0
theorem digs_len : ∀ (n u : Nat), (digs n u).length = n
  | 0, _ => rfl
  | n + 1, u => by simp [digs, digs_len n]
theorem digs_byt : ∀ (n u : Nat), Byt (digs n u)
  | 0, _ => fun b hb => by cases hb
  | n + 1, u => fun b hb => by
    simp only [digs, List.mem_append, List.mem_singleton] at hb
    rcases hb with hb | rfl
    · exact digs_byt n _ b hb
    · omega
theorem digs_front : ∀ (n u : Nat), digs (n + 1) u = ((u / 256 ^ n % 256 : Nat) : Int) :: digs n u
  | 0, u => by simp [digs]
  | n + 1, u => by
    rw [digs, digs_front n (u / 256), digs, List.cons_append, Nat.div_div_eq_div_mul, show 256 * 256 ^ n = 256 ^ (n + 1) by rw [Nat.pow_succ, Nat.mul_comm]]
theorem digs_get : ∀ (n u j : Nat), j < n → (digs n u)[j]? = some ((u / 256 ^ (n - 1 - j) % 256 : Nat) : Int)
  | 0, _, _, h => by omega
  | n + 1, u, 0, _ => by rw [digs_front]; rfl
  | n + 1, u, j + 1, h => by
    rw [digs_front, List.getElem?_cons_succ, digs_get n u j (by omega)]
    rw [show n - 1 - j = n + 1 - 1 - (j + 1) by omega]
theorem valB_snoc (ds : List Int) (d : Int) : valB (ds ++ [d]) = 256 * valB ds + d.toNat := by simp [valB]
theorem valB_digs : ∀ (n u : Nat), valB (digs n u) = u % 256 ^ n
  | 0, u => by simp [digs, valB, Nat.mod_one]
  | n + 1, u => by
    rw [digs, valB_snoc, valB_digs n, Int.toNat_natCast]
    have h1 : u % 256 ^ (n + 1) = 256 * (u / 256 % 256 ^ n) + u % 256 := by
      rw [Nat.pow_succ, Nat.mul_comm (256 ^ n) 256, Nat.mod_mul]; omega
    omega
theorem blen_lt {u k : Nat} (h : u < 2 ^ k) : blen u ≤ k := by
  unfold blen
  split
  · omega
  · rename_i h0
    have := (Nat.log2_lt h0).2 h
    omega
theorem lt_blen (u : Nat) : u < 2 ^ blen u := by
  unfold blen
  split
  · rename_i h; rw [h]; decide
  · exact Nat.lt_log2_self
theorem blen_ge {u k : Nat} (h : 2 ^ k ≤ u) : k < blen u := by
  rcases Nat.lt_or_ge k (blen u) with q | q
  · exact q
  · have h1 := lt_blen u
    have h2 : 2 ^ blen u ≤ 2 ^ k := Nat.pow_le_pow_right (by decide) q
    omega
theorem nlen_le {u k : Nat} (h : u < 256 ^ k) : nlen u ≤ k := by
  have h1 : (256 : Nat) ^ k = 2 ^ (8 * k) := by rw [Nat.pow_mul]
  have := blen_lt (h1 ▸ h)
  unfold nlen; omega
theorem nlen_gt {u k : Nat} (h : 256 ^ k ≤ u) : k < nlen u := by
  have h1 : (256 : Nat) ^ k = 2 ^ (8 * k) := by rw [Nat.pow_mul]
  have := blen_ge (h1 ▸ h)
  unfold nlen; omega
theorem lt_nlen (u : Nat) : u < 256 ^ nlen u := by
  rcases Nat.lt_or_ge u (256 ^ nlen u) with q | q
  · exact q
  · have := nlen_gt q; omega
theorem nlen_8 {u : Nat} (h : u < 2 ^ 64) : nlen u ≤ 8 := nlen_le (k := 8) (by simpa using h)
theorem val_numB (u : Nat) : valB (digs (nlen u) u) = u := by rw [valB_digs, Nat.mod_eq_of_lt (lt_nlen u)]
theorem valB_lt : ∀ {ds : List Int}, Byt ds → valB ds < 256 ^ ds.length := by
  intro ds
  have key : ∀ (ds : List Int) (a k : Nat), a < 256 ^ k → Byt ds → ds.foldl (fun a d => 256 * a + d.toNat) a < 256 ^ (k + ds.length) := by
    intro ds
    induction ds with
    | nil => intro a k h _; simpa using h
    | cons d r ih =>
      intro a k h hb
      have h1 := hb d (by simp)
      have := ih (256 * a + d.toNat) (k + 1) (by rw [Nat.pow_succ]; omega) (fun b q => hb b (by simp [q]))
      rw [List.foldl_cons, List.length_cons, show k + (r.length + 1) = k + 1 + r.length by omega]
      exact this
  intro h
  have := key ds 0 0 (by decide) h
  simpa [valB] using this
theorem digs_valB {ds : List Int} (h : Byt ds) : digs ds.length (valB ds) = ds := by
  induction hn : ds.length generalizing ds with
  | zero =>
    have : ds = [] := List.length_eq_zero_iff.1 hn
    subst this; rfl
  | succ n ih =>
    have hne : ds ≠ [] := by intro e; subst e; simp at hn
    obtain ⟨l, d, rfl⟩ : ∃ l d, ds = l ++ [d] := ⟨ds.dropLast, ds.getLast hne, (List.dropLast_concat_getLast hne).symm⟩
    have hl : l.length = n := by simpa using hn
    have hd := h d (by simp)
    have hb : Byt l := fun b q => h b (by simp [q])
    rw [digs, valB_snoc]
    have e1 : (256 * valB l + d.toNat) / 256 = valB l := by omega
    have e2 : (256 * valB l + d.toNat) % 256 = d.toNat := by omega
    rw [e1, e2, ih hb hl]
    congr 1
    simp only [List.cons.injEq, and_true]
    omega
/-- Written in its one form: the first digit isn't 0. -/
theorem nlen_valB {ds : List Int} (h : Byt ds) : nlen (valB ds) = ds.length ↔ ¬ (ds ≠ [] ∧ ds.headD 0 = 0) := by
  cases ds with
  | nil => simp [valB, nlen, blen]
  | cons d r =>
    have hd := h d (by simp)
    have hb : Byt r := fun b q => h b (by simp [q])
    have hv : valB (d :: r) = d.toNat * 256 ^ r.length + valB r := by
      have h1 := digs_valB h
      rw [List.length_cons, digs_front] at h1
      obtain ⟨h2, h3⟩ := List.cons.inj h1
      have h4 : valB (digs r.length (valB (d :: r))) = valB r := by rw [h3]
      rw [valB_digs] at h4
      have h5 : valB (d :: r) / 256 ^ r.length < 256 := by
        rw [Nat.div_lt_iff_lt_mul (Nat.pow_pos (by decide))]
        have := valB_lt h
        rwa [List.length_cons, Nat.pow_succ, Nat.mul_comm] at this
      have h6 := Nat.div_add_mod (valB (d :: r)) (256 ^ r.length)
      have h7 : valB (d :: r) / 256 ^ r.length = d.toNat := by
        rw [Nat.mod_eq_of_lt h5] at h2
        exact (Int.toNat_natCast _).symm.trans (congrArg Int.toNat h2)
      rw [h7, h4, Nat.mul_comm] at h6
      exact h6.symm
    have hr := valB_lt hb
    simp only [ne_eq, reduceCtorEq, not_false_eq_true, List.headD_cons, true_and, List.length_cons]
    constructor
    · intro e h0
      have : valB (d :: r) < 256 ^ r.length := by rw [hv, h0]; simpa using hr
      have := nlen_le this
      omega
    · intro h0
      have h1 : 256 ^ r.length ≤ valB (d :: r) := by
        rw [hv]
        have : 1 * 256 ^ r.length ≤ d.toNat * 256 ^ r.length := Nat.mul_le_mul_right _ (by omega)
        omega
      have := nlen_gt h1
      have h2 := nlen_le (valB_lt h)
      rw [List.length_cons] at h2
      omega
/-- A number is read: what is left, the error, the number. -/
def readN (l : List Int) (bad : Int) : List Int × Int × Nat :=
  if bad ≠ 0 then (l, bad, 0) else
  match l with
  | [] => (l, 10, 0)
  | n :: r => if 8 < n then (l, 11, 0) else if r.length < n.toNat then (l, 10, 0) else if nlen (valB (r.take n.toNat)) ≠ n.toNat then (l, 11, 0) else (r.drop n.toNat, 0, valB (r.take n.toNat))
def readC (most : Int) (l : List Int) (bad : Int) : List Int × Int × Nat :=
  let r := readN l bad
  if ((max 0 most).toNat) < r.2.2 then (r.1, 12, 0) else r
theorem readN_num {u : Nat} (hu : u < 2 ^ 64) (rest : List Int) : readN (numB u ++ rest) 0 = (rest, 0, u) := by
  have h8 := nlen_8 hu
  have hl := digs_len (nlen u) u
  unfold readN numB
  rw [if_neg (by simp), List.cons_append]
  dsimp only
  rw [Int.toNat_natCast, if_neg (by omega), if_neg (by rw [List.length_append, hl]; omega)]
  rw [List.take_append_of_le_length (by omega), List.take_of_length_le (by omega), val_numB, if_neg (by simp), List.drop_append_of_le_length (by omega), List.drop_of_length_le (by omega)]
  rfl
theorem readN_ok {l : List Int} {bad : Int} (hb : Byt l) (h : (readN l bad).2.1 = 0) : bad = 0 ∧ l = numB (readN l bad).2.2 ++ (readN l bad).1 ∧ (readN l bad).2.2 < 2 ^ 64 := by
  unfold readN at *
  by_cases h0 : bad = 0
  · rw [if_neg (by simpa using h0)] at *
    cases l with
    | nil => simp at h
    | cons n r =>
      have hn := hb n (by simp)
      have hr : Byt r := fun b q => hb b (by simp [q])
      simp only at *
      by_cases h1 : 8 < n
      · rw [if_pos h1] at h; simp at h
      · rw [if_neg h1] at *
        by_cases h2 : r.length < n.toNat
        · rw [if_pos h2] at h; simp at h
        · rw [if_neg h2] at *
          by_cases h3 : nlen (valB (r.take n.toNat)) ≠ n.toNat
          · rw [if_pos h3] at h; simp at h
          · rw [if_neg h3] at *
            have h3 : nlen (valB (r.take n.toNat)) = n.toNat := Decidable.not_not.1 h3
            have hbt : Byt (r.take n.toNat) := fun b q => hr b (List.mem_of_mem_take q)
            have hlt : (r.take n.toNat).length = n.toNat := by rw [List.length_take]; omega
            refine ⟨h0, ?_, ?_⟩
            · unfold numB
              rw [h3]
              have := digs_valB hbt
              rw [hlt] at this
              rw [this, List.cons_append, List.take_append_drop]
              congr 1; omega
            · have := valB_lt hbt
              rw [hlt] at this
              exact Nat.lt_of_lt_of_le this (by
                have : (256 : Nat) ^ n.toNat ≤ 256 ^ 8 := Nat.pow_le_pow_right (by decide) (by omega)
                simpa using this)
  · rw [if_pos h0] at h; exact absurd h h0
/-- With a sign. -/
def foldN (i : Int) : Nat := if 0 ≤ i then (2 * i).toNat else (-2 * i - 1).toNat
def unfoldN (u : Nat) : Int := if u % 2 = 0 then ((u / 2 : Nat) : Int) else -((u / 2 : Nat) : Int) - 1
theorem unfold_fold (i : Int) : unfoldN (foldN i) = i := by
  unfold unfoldN foldN
  split
  · split <;> omega
  · split <;> omega
theorem fold_unfold (u : Nat) : foldN (unfoldN u) = u := by
  unfold unfoldN foldN
  split
  · split <;> omega
  · split <;> omega
theorem foldN_lt {i : Int} (h : -9223372036854775808 ≤ i ∧ i ≤ 9223372036854775807) : foldN i < 2 ^ 64 := by
  unfold foldN; split <;> omega
end Go.Eng
