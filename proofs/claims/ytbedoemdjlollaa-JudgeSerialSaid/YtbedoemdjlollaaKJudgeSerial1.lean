/- Part 1 of the texts of a proof about the given program: what the statement's proof needs of them. -/
import Derived.WalkKit
namespace Go.Syn
open Go.RowKit
theorem and_mask_toNat (x : Int) (k : Nat) (hk : k ≤ 62) : ((BitVec.ofInt 64 x &&& BitVec.ofInt 64 (((2 ^ k - 1 : Nat)) : Int)).toNat : Int) = x % (2 ^ k : Nat) := by
  have hp : 2 ^ k < 2 ^ 64 := Nat.pow_lt_pow_right (by omega) (by omega)
  have h1 : (BitVec.ofInt 64 (((2 ^ k - 1 : Nat)) : Int)).toNat = 2 ^ k - 1 := by
    rw [BitVec.toNat_ofInt, Int.emod_eq_of_lt (Int.natCast_nonneg _) (by norm_cast; omega)]; simp
  rw [BitVec.toNat_and, h1, Nat.and_two_pow_sub_one_eq_mod, Int.natCast_emod, BitVec.toNat_ofInt]
  rw [Int.toNat_of_nonneg (Int.emod_nonneg _ (by norm_cast))]
  refine Int.emod_emod_of_dvd _ ?_
  norm_cast
  exact Nat.pow_dvd_pow 2 (by omega)
theorem i64_mask (x : Int) (k : Nat) (hk : k ≤ 62) : bits .and .i64 x (((2 ^ k - 1 : Nat)) : Int) = x % (2 ^ k : Nat) := by
  have h := and_mask_toNat x k hk
  have hp : 2 ^ k ≤ 2 ^ 62 := Nat.pow_le_pow_right (by omega) hk
  have n1 := Int.emod_nonneg x (b := (2 ^ k : Nat)) (by have := Nat.one_le_two_pow (n := k); omega)
  have n2 := Int.emod_lt_of_pos x (b := (2 ^ k : Nat)) (by have := Nat.one_le_two_pow (n := k); omega)
  show IntKind.i64.wrap _ = _
  show IntKind.i64.wrap ((BitVec.ofInt 64 x &&& BitVec.ofInt 64 (((2 ^ k - 1 : Nat)) : Int)).toNat : Int) = _
  rw [h]
  generalize x % ((2 ^ k : Nat) : Int) = y at *
  have hq : 2 ^ k ≤ 4611686018427387904 := by simpa using hp
  generalize 2 ^ k = q at *
  exact IntWalk.i64_in _ ⟨by omega, by omega⟩
end Go.Syn
