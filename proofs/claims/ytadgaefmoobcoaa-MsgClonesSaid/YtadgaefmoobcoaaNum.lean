/- Contracts of layer 1's numbers. -/
import Derived.Test.YtadgaefmoobcoaaNumP
import Derived.Test.YtadgaefmoobcoaaNumT
namespace Go.Proofs.Ytadgaefmoobcoaa
open Go.ChangeShapes Go.WideShapes Go.ChangeAt Go.RowKit Go.Syn Go.Eng
set_option linter.unusedVariables false
set_option linter.unusedSimpArgs false
def lenTab : ByteArray := ⟨#[0, 1, 2, 2, 3, 3, 3, 3, 4, 4, 4, 4, 4, 4, 4, 4, 5, 5, 5, 5, 5, 5, 5, 5, 5, 5, 5, 5, 5, 5, 5, 5, 6, 6, 6, 6, 6, 6, 6, 6, 6, 6, 6, 6, 6, 6, 6, 6, 6, 6, 6, 6, 6, 6, 6, 6, 6, 6, 6, 6, 6, 6, 6, 6, 7, 7, 7, 7, 7, 7, 7, 7, 7, 7, 7, 7, 7, 7, 7, 7, 7, 7, 7, 7, 7, 7, 7, 7, 7, 7, 7, 7, 7, 7, 7, 7, 7, 7, 7, 7, 7, 7, 7, 7, 7, 7, 7, 7, 7, 7, 7, 7, 7, 7, 7, 7, 7, 7, 7, 7, 7, 7, 7, 7, 7, 7, 7, 7, 8, 8, 8, 8, 8, 8, 8, 8, 8, 8, 8, 8, 8, 8, 8, 8, 8, 8, 8, 8, 8, 8, 8, 8, 8, 8, 8, 8, 8, 8, 8, 8, 8, 8, 8, 8, 8, 8, 8, 8, 8, 8, 8, 8, 8, 8, 8, 8, 8, 8, 8, 8, 8, 8, 8, 8, 8, 8, 8, 8, 8, 8, 8, 8, 8, 8, 8, 8, 8, 8, 8, 8, 8, 8, 8, 8, 8, 8, 8, 8, 8, 8, 8, 8, 8, 8, 8, 8, 8, 8, 8, 8, 8, 8, 8, 8, 8, 8, 8, 8, 8, 8, 8, 8, 8, 8, 8, 8, 8, 8, 8, 8, 8, 8, 8, 8, 8, 8, 8, 8, 8, 8, 8, 8, 8, 8, 8, 8]⟩
theorem lenTab_size : lenTab.size = 256 := by kernel_rfl
theorem lenTab_at {x : Nat} (h : x < 256) : (lenTab[x]?).map UInt8.toNat = some (blen x) :=
  (of_decide_eq_true (by kernel_rfl) : ∀ i : Fin 256, (lenTab[i.val]?).map UInt8.toNat = some (blen i.val)) ⟨x, h⟩
section
variable {C : Cfg} {ρ : Env} {pre : List Nat} {hx : HX} {L : Stack} {m m' : Mem} {ty : Nat} {ps : List (Nat × SV)} {t : Tree}
theorem node_len8 {st : Nat} {xi : Operand} {k : IntKind} {r : SV} (x : Nat) (hx2 : x < 256) (ht : C.P.underlying st = some .string) (hxi : ∀ ids, envOf ρ ids ps xi = .int k (x : Int)) (hr : ∀ ids, r.den (ρ.add ⟨[(blen x : Int)], [], [], [], []⟩) ids = .int .u8 (blen x : Int)) (hhp : m'.hp = m.hp) (hfit : hpFits m.c m.hp.length m.hp = true) (hc : (ρ.add ⟨[(blen x : Int)], [], [], [], []⟩).cnt = m'.c)
    (h : t.holds C (ρ.add ⟨[(blen x : Int)], [], [], [], []⟩) pre hx L) : (Tree.gen (.index st (.const (.string lenTab)) xi) ty ps m (some r) m' t).holds C ρ pre hx L := by
  refine node_gpure (V := .int .u8 (blen x : Int)) _ (fun ids w hp hf => ?_) hr hhp hfit hc oneNil h
  have hb := lenTab_at hx2
  obtain ⟨b, hb1, hb2⟩ := Option.map_eq_some_iff.1 hb
  have e : (Instr.index st (.string lenTab) (.int k (x : Int))).run C.P w = .ok (.int .u8 (blen x : Int)) w := by
    simp only [Instr.index, asIntOf, Sem.run_bind, Sem.run_pure, Result.andThen_ok, run_underlying ht]
    rw [if_pos (by omega), Int.toNat_natCast, hb1, ← hb2]
    rfl
  have e2 : envOf ρ ids ps (.const (.string lenTab)) = .string lenTab := rfl
  simp only [execOp, hxi, e2, Sem.run_bind, e, Result.andThen_ok, Sem.run_pure]
end
theorem shr_u64 {u k : Nat} (hk : k ≤ 64) : ifn .shr .u64 (u : Int) (k : Int) = ((u / 2 ^ k : Nat) : Int) := by
  show Int.fdiv (u : Int) (2 ^ min (k : Int).toNat 64) = _
  rw [Int.toNat_natCast, Nat.min_eq_left hk]
  show Int.fdiv (u : Int) ((2 : Nat) ^ k : Int) = _
  rw [← Int.natCast_pow, Int.fdiv_eq_ediv_of_nonneg _ (Int.natCast_nonneg _)]
  exact (Int.natCast_ediv u (2 ^ k)).symm
theorem blen_shift {u k : Nat} (h : 2 ^ k ≤ u) : blen u = k + blen (u / 2 ^ k) := by
  have hp : 0 < 2 ^ k := Nat.pow_pos (by decide)
  have h1 : 0 < u / 2 ^ k := Nat.div_pos h hp
  have hu : u ≠ 0 := by omega
  unfold blen
  rw [if_neg hu, if_neg (by omega)]
  have h2 := (Nat.log2_eq_iff (n := u / 2 ^ k) (by omega)).1 rfl
  have h3 : u.log2 = k + (u / 2 ^ k).log2 := by
    refine (Nat.log2_eq_iff hu).2 ⟨?_, ?_⟩
    · rw [Nat.pow_add, Nat.mul_comm]
      exact (Nat.le_div_iff_mul_le hp).1 h2.1
    · rw [show k + (u / 2 ^ k).log2 + 1 = (u / 2 ^ k).log2 + 1 + k by omega, Nat.pow_add]
      exact (Nat.div_lt_iff_lt_mul hp).1 h2.2
  omega
theorem u8_small {x : Nat} (h : x < 256) : IntKind.u8.wrap (x : Int) = (x : Int) := IntWalk.u8_in _ (by omega)
set_option maxRecDepth 100000 in
theorem len64_any {u : Nat} (hu : u < 2 ^ 64) (w : World) : Calls Try.prog 89 #[.int .u64 (u : Int)] w (PureAt w (.int .i64 (blen u : Int))) := by
  refine calls_at (tab_ok _) Try.func89 rfl tLen64 (ρ := ⟨[(u : Int)], [], [], [], []⟩) (ids := []) rfl (Facts.initP rfl oneNil) ?_
  have cgt : ∀ (a b : Nat), b ≤ a → decide ((a : Int) ≥ (b : Int)) = true := fun a b h => decide_eq_true (by omega)
  have clt : ∀ (a b : Nat), a < b → decide ((a : Int) ≥ (b : Int)) = false := fun a b h => decide_eq_false (by omega)
  have e32 : ifn .shr .u64 (u : Int) 32 = ((u / 2 ^ 32 : Nat) : Int) := shr_u64 (k := 32) (by decide)
  have e16 : ∀ v : Nat, ifn .shr .u64 (v : Int) 16 = ((v / 2 ^ 16 : Nat) : Int) := fun v => shr_u64 (k := 16) (by decide)
  have e8 : ∀ v : Nat, ifn .shr .u64 (v : Int) 8 = ((v / 2 ^ 8 : Nat) : Int) := fun v => shr_u64 (k := 8) (by decide)
  have fin : ∀ (k b : Nat), k ≤ 64 → b ≤ 64 → blen u = k + b → ∀ (X : Int), X = ifn .add .i64 (k : Int) (IntKind.i64.wrap (b : Int)) → Value.int .i64 X = .int .i64 (blen u : Int) := fun k b h1 h2 h3 X hX => by
    rw [hX, h3, wrap_i64 (by omega)]
    show Value.int .i64 (IntKind.i64.wrap ((k : Int) + (b : Int))) = _
    rw [wrap_i64 (by omega)]; congr 1
  have b8 : ∀ {x : Nat}, x < 256 → blen x ≤ 64 := fun h => Nat.le_trans (blen_lt (k := 8) (by simpa using h)) (by decide)
  by_cases h32 : 4294967296 ≤ u
  · refine br_t (show decide ((u : Int) ≥ 4294967296) = true by exact cgt _ 4294967296 h32) ?_
    by_cases h16 : 65536 ≤ u / 2 ^ 32
    · refine br_t (show decide (ifn .shr .u64 ((u : Int)) 32 ≥ 65536) = true by rw [e32]; exact cgt _ 65536 h16) ?_
      by_cases h8 : 256 ≤ u / 2 ^ 32 / 2 ^ 16
      · refine br_t (show decide (ifn .shr .u64 (ifn .shr .u64 ((u : Int)) 32) 16 ≥ 256) = true by rw [e32, e16]; exact cgt _ 256 h8) ?_
        refine node_len8 (k := .u8) (u / 2 ^ 32 / 2 ^ 16 / 2 ^ 8) (by omega) Try.underlying9 (fun _ => ?_) (fun _ => rfl) rfl rfl rfl ?_
        · show Value.int .u8 (IntKind.u8.wrap (ifn .shr .u64 (ifn .shr .u64 (ifn .shr .u64 ((u : Int)) 32) 16) 8)) = _
          rw [e32, e16, e8, u8_small (by omega)]
        exact pure_done fun _ => fin 56 (blen (u / 2 ^ 32 / 2 ^ 16 / 2 ^ 8)) (by decide) (b8 (by omega)) (by have q0 := blen_shift (k := 32) (u := u) (by omega); have q1 := blen_shift (k := 16) (u := u / 2 ^ 32) (by omega); have q2 := blen_shift (k := 8) (u := u / 2 ^ 32 / 2 ^ 16) (by omega); omega) _ rfl
      · refine br_f (show decide (ifn .shr .u64 (ifn .shr .u64 ((u : Int)) 32) 16 ≥ 256) = false by rw [e32, e16]; exact clt _ 256 (by omega)) ?_
        refine node_len8 (k := .u8) (u / 2 ^ 32 / 2 ^ 16) (by omega) Try.underlying9 (fun _ => ?_) (fun _ => rfl) rfl rfl rfl ?_
        · show Value.int .u8 (IntKind.u8.wrap (ifn .shr .u64 (ifn .shr .u64 ((u : Int)) 32) 16)) = _
          rw [e32, e16, u8_small (by omega)]
        exact pure_done fun _ => fin 48 (blen (u / 2 ^ 32 / 2 ^ 16)) (by decide) (b8 (by omega)) (by have q0 := blen_shift (k := 32) (u := u) (by omega); have q1 := blen_shift (k := 16) (u := u / 2 ^ 32) (by omega); omega) _ rfl
    · refine br_f (show decide (ifn .shr .u64 ((u : Int)) 32 ≥ 65536) = false by rw [e32]; exact clt _ 65536 (by omega)) ?_
      by_cases h8 : 256 ≤ u / 2 ^ 32
      · refine br_t (show decide (ifn .shr .u64 ((u : Int)) 32 ≥ 256) = true by rw [e32]; exact cgt _ 256 h8) ?_
        refine node_len8 (k := .u8) (u / 2 ^ 32 / 2 ^ 8) (by omega) Try.underlying9 (fun _ => ?_) (fun _ => rfl) rfl rfl rfl ?_
        · show Value.int .u8 (IntKind.u8.wrap (ifn .shr .u64 (ifn .shr .u64 ((u : Int)) 32) 8)) = _
          rw [e32, e8, u8_small (by omega)]
        exact pure_done fun _ => fin 40 (blen (u / 2 ^ 32 / 2 ^ 8)) (by decide) (b8 (by omega)) (by have q0 := blen_shift (k := 32) (u := u) (by omega); have q1 := blen_shift (k := 8) (u := u / 2 ^ 32) (by omega); omega) _ rfl
      · refine br_f (show decide (ifn .shr .u64 ((u : Int)) 32 ≥ 256) = false by rw [e32]; exact clt _ 256 (by omega)) ?_
        refine node_len8 (k := .u8) (u / 2 ^ 32) (by omega) Try.underlying9 (fun _ => ?_) (fun _ => rfl) rfl rfl rfl ?_
        · show Value.int .u8 (IntKind.u8.wrap (ifn .shr .u64 ((u : Int)) 32)) = _
          rw [e32, u8_small (by omega)]
        exact pure_done fun _ => fin 32 (blen (u / 2 ^ 32)) (by decide) (b8 (by omega)) (by have q0 := blen_shift (k := 32) (u := u) (by omega); omega) _ rfl
  · refine br_f (show decide ((u : Int) ≥ 4294967296) = false by exact clt _ 4294967296 (by omega)) ?_
    by_cases h16 : 65536 ≤ u
    · refine br_t (show decide ((u : Int) ≥ 65536) = true by exact cgt _ 65536 h16) ?_
      by_cases h8 : 256 ≤ u / 2 ^ 16
      · refine br_t (show decide (ifn .shr .u64 ((u : Int)) 16 ≥ 256) = true by rw [e16]; exact cgt _ 256 h8) ?_
        refine node_len8 (k := .u8) (u / 2 ^ 16 / 2 ^ 8) (by omega) Try.underlying9 (fun _ => ?_) (fun _ => rfl) rfl rfl rfl ?_
        · show Value.int .u8 (IntKind.u8.wrap (ifn .shr .u64 (ifn .shr .u64 ((u : Int)) 16) 8)) = _
          rw [e16, e8, u8_small (by omega)]
        exact pure_done fun _ => fin 24 (blen (u / 2 ^ 16 / 2 ^ 8)) (by decide) (b8 (by omega)) (by have q0 := blen_shift (k := 16) (u := u) (by omega); have q1 := blen_shift (k := 8) (u := u / 2 ^ 16) (by omega); omega) _ rfl
      · refine br_f (show decide (ifn .shr .u64 ((u : Int)) 16 ≥ 256) = false by rw [e16]; exact clt _ 256 (by omega)) ?_
        refine node_len8 (k := .u8) (u / 2 ^ 16) (by omega) Try.underlying9 (fun _ => ?_) (fun _ => rfl) rfl rfl rfl ?_
        · show Value.int .u8 (IntKind.u8.wrap (ifn .shr .u64 ((u : Int)) 16)) = _
          rw [e16, u8_small (by omega)]
        exact pure_done fun _ => fin 16 (blen (u / 2 ^ 16)) (by decide) (b8 (by omega)) (by have q0 := blen_shift (k := 16) (u := u) (by omega); omega) _ rfl
    · refine br_f (show decide ((u : Int) ≥ 65536) = false by exact clt _ 65536 (by omega)) ?_
      by_cases h8 : 256 ≤ u
      · refine br_t (show decide ((u : Int) ≥ 256) = true by exact cgt _ 256 h8) ?_
        refine node_len8 (k := .u8) (u / 2 ^ 8) (by omega) Try.underlying9 (fun _ => ?_) (fun _ => rfl) rfl rfl rfl ?_
        · show Value.int .u8 (IntKind.u8.wrap (ifn .shr .u64 ((u : Int)) 8)) = _
          rw [e8, u8_small (by omega)]
        exact pure_done fun _ => fin 8 (blen (u / 2 ^ 8)) (by decide) (b8 (by omega)) (by have q0 := blen_shift (k := 8) (u := u) (by omega); omega) _ rfl
      · refine br_f (show decide ((u : Int) ≥ 256) = false by exact clt _ 256 (by omega)) ?_
        refine node_len8 (k := .u8) (u) (by omega) Try.underlying9 (fun _ => ?_) (fun _ => rfl) rfl rfl rfl ?_
        · show Value.int .u8 (IntKind.u8.wrap ((u : Int))) = _
          rw [u8_small (by omega)]
        exact pure_done fun _ => fin 0 (blen (u)) (by decide) (b8 (by omega)) (by  omega) _ rfl
theorem size_any {u : Nat} (hu : u < 2 ^ 64) (w : World) : Calls Try.prog 71 #[.int .u64 (u : Int)] w (PureAt w (.int .i64 ((nlen u + 1 : Nat) : Int))) := by
  refine calls_at (tab_ok _) Try.func71 rfl tSize (ρ := ⟨[(u : Int)], [], [], [], []⟩) (ids := []) rfl (Facts.initP rfl oneNil) ?_
  refine node_val ⟨[(blen u : Int)], [], [], [], []⟩ (fun w => len64_any hu w) (fun _ => rfl) (fun _ => rfl) rfl rfl rfl oneNil ?_
  have h64 := blen_lt hu
  refine pure_done fun _ => ?_
  show Value.int .i64 (IntKind.i64.wrap (1 + IntKind.i64.wrap (Int.tdiv (IntKind.i64.wrap ((blen u : Int) + 7)) 8))) = _
  have e : Int.tdiv ((blen u : Int) + 7) 8 = ((nlen u : Nat) : Int) := by
    unfold nlen
    rw [show (blen u : Int) + 7 = ((blen u + 7 : Nat) : Int) by omega]
    rfl
  have h8 : nlen u ≤ 8 := nlen_8 hu
  rw [wrap_i64 (x := (blen u : Int) + 7) (by omega), e, wrap_i64 (x := (nlen u : Int)) (by omega), wrap_i64 (by omega)]
  congr 1; omega
theorem fold_any {i : Int} (h : I64 i) (w : World) : Calls Try.prog 72 #[.int .i64 i] w (PureAt w (.int .u64 (foldN i : Int))) := by
  refine calls_at (tab_ok _) Try.func72 rfl tFold (ρ := ⟨[i], [], [], [], []⟩) (ids := []) rfl (Facts.initP rfl oneNil) ?_
  refine pure_done fun _ => ?_
  show Value.int .u64 (ifn .xor .u64 (ifn .shl .u64 (IntKind.u64.wrap i) 1) (IntKind.u64.wrap (ifn .shr .i64 i 63))) = _
  congr 1
  have h2 := h
  unfold I64 at h2
  have wr : ∀ x : Int, IntKind.u64.wrap x = x % 18446744073709551616 := fun x => rfl
  have hs : ifn .shr .i64 i 63 = if 0 ≤ i then 0 else -1 := by
    show Int.fdiv i (2 ^ 63) = _
    have : Int.fdiv i (2 ^ 63) = i / 2 ^ 63 := Int.fdiv_eq_ediv_of_nonneg _ (by decide)
    rw [this]
    split <;> omega
  rw [hs]
  have hshl : ifn .shl .u64 (IntKind.u64.wrap i) 1 = (2 * i) % 18446744073709551616 := by
    show IntKind.u64.wrap (IntKind.u64.wrap i * 2 ^ 1) = _
    rw [wr, wr]; omega
  rw [hshl]
  unfold foldN
  by_cases h0 : 0 ≤ i
  · rw [if_pos h0, if_pos h0]
    show IntKind.u64.wrap (BitVec.ofInt 64 ((2 * i) % 18446744073709551616) ^^^ BitVec.ofInt 64 (IntKind.u64.wrap 0)).toNat = _
    have e : BitVec.ofInt 64 (IntKind.u64.wrap 0) = 0#64 := by decide
    rw [e, BitVec.xor_zero, BitVec.toNat_ofInt, wr]; omega
  · rw [if_neg h0, if_neg h0]
    show IntKind.u64.wrap (BitVec.ofInt 64 ((2 * i) % 18446744073709551616) ^^^ BitVec.ofInt 64 (IntKind.u64.wrap (-1))).toNat = _
    have e : BitVec.ofInt 64 (IntKind.u64.wrap (-1)) = BitVec.allOnes 64 := by decide
    rw [e, BitVec.xor_allOnes, BitVec.toNat_not, BitVec.toNat_ofInt, wr]; omega
theorem unfold_any {u : Nat} (hu : u < 2 ^ 64) (w : World) : Calls Try.prog 90 #[.int .u64 (u : Int)] w (PureAt w (.int .i64 (unfoldN u))) := by
  refine calls_at (tab_ok _) Try.func90 rfl tUnfold (ρ := ⟨[(u : Int)], [], [], [], []⟩) (ids := []) rfl (Facts.initP rfl oneNil) ?_
  refine pure_done fun _ => ?_
  show Value.int .i64 (ifn .xor .i64 (IntKind.i64.wrap (ifn .shr .u64 (u : Int) 1)) (ifn .sub .i64 0 (IntKind.i64.wrap (ifn .and .u64 (u : Int) 1)))) = _
  congr 1
  have e1 : ifn .shr .u64 (u : Int) 1 = ((u / 2 : Nat) : Int) := shr_u64 (k := 1) (by decide)
  have e2 : ifn .and .u64 (u : Int) 1 = ((u % 2 : Nat) : Int) := by
    show IntKind.u64.wrap ((BitVec.ofInt 64 (u : Int) &&& BitVec.ofInt 64 1).toNat : Int) = _
    have e3 : (BitVec.ofInt 64 (u : Int) &&& BitVec.ofInt 64 1).toNat = u % 2 := by
      rw [BitVec.toNat_and]
      have h2 : (BitVec.ofInt 64 (u : Int)).toNat = u := by simp only [BitVec.toNat_ofInt]; omega
      have h3 : (BitVec.ofInt 64 1).toNat = 2 ^ 1 - 1 := by decide
      rw [h2, h3]
      exact Nat.and_two_pow_sub_one_eq_mod u 1
    rw [e3]
    exact IntWalk.u64_in _ (by omega)
  rw [e1, e2, wrap_i64 (x := ((u / 2 : Nat) : Int)) (by omega), wrap_i64 (x := ((u % 2 : Nat) : Int)) (by omega)]
  have wr : ∀ x : Int, -9223372036854775808 ≤ x ∧ x ≤ 9223372036854775807 → IntKind.i64.wrap x = x := fun x h => wrap_i64 h
  unfold unfoldN
  rcases (by omega : u % 2 = 0 ∨ u % 2 = 1) with h | h
  · rw [h, if_pos rfl]
    have e : ifn .sub .i64 0 ((0 : Nat) : Int) = 0 := by decide
    rw [e]
    show IntKind.i64.wrap ((BitVec.ofInt 64 ((u / 2 : Nat) : Int) ^^^ BitVec.ofInt 64 0).toNat : Int) = _
    have e2 : BitVec.ofInt 64 0 = 0#64 := by decide
    rw [e2, BitVec.xor_zero, BitVec.toNat_ofInt]
    rw [wr _ (by omega)]; omega
  · rw [h, if_neg (by decide)]
    have e : ifn .sub .i64 0 ((1 : Nat) : Int) = -1 := by decide
    rw [e]
    show IntKind.i64.wrap ((BitVec.ofInt 64 ((u / 2 : Nat) : Int) ^^^ BitVec.ofInt 64 (-1)).toNat : Int) = _
    have e2 : BitVec.ofInt 64 (-1) = BitVec.allOnes 64 := by decide
    rw [e2, BitVec.xor_allOnes, BitVec.toNat_not, BitVec.toNat_ofInt]
    have e3 : (((2 : Nat) ^ 64 - 1 - ((((u / 2 : Nat) : Int) % ((2 ^ 64 : Nat) : Int)).toNat) : Nat) : Int) = 18446744073709551615 - ((u / 2 : Nat) : Int) := by omega
    rw [e3]
    have : ∀ y : Int, 9223372036854775808 ≤ y ∧ y ≤ 18446744073709551615 → IntKind.i64.wrap y = y - 18446744073709551616 := fun y hy => by
      have hm : y % (2 ^ IntKind.i64.bits : Int) = y := Int.emod_eq_of_lt (by omega) (show y < 18446744073709551616 by omega)
      unfold IntKind.wrap
      simp only [hm]
      rw [if_pos (by simp only [IntKind.signed, Bool.true_and, decide_eq_true_eq]; exact hy.1)]
      rfl
    rw [this _ (by omega)]; omega
theorem rfold_any {i : Int} (h : I64 i) (w : World) : Calls Try.prog 74 #[.int .i64 i] w (PureAt w (.int .u64 (foldN i : Int))) := by
  refine calls_at (tab_ok _) Try.func74 rfl tRFold (ρ := ⟨[i], [], [], [], []⟩) (ids := []) rfl (Facts.initP rfl oneNil) ?_
  have h2 := h
  unfold I64 at h2
  have wr : ∀ x : Int, IntKind.u64.wrap x = x % 18446744073709551616 := fun x => rfl
  unfold foldN
  by_cases h0 : 0 ≤ i
  · refine br_t (show decide (i ≥ 0) = true from decide_eq_true h0) (pure_done fun _ => ?_)
    show Value.int .u64 (IntKind.u64.wrap (2 * IntKind.u64.wrap i)) = _
    rw [if_pos h0, wr, wr]; congr 1; omega
  · refine br_f (show decide (i ≥ 0) = false from decide_eq_false h0) (pure_done fun _ => ?_)
    show Value.int .u64 (IntKind.u64.wrap (IntKind.u64.wrap (2 * IntKind.u64.wrap (IntKind.i64.wrap (0 - IntKind.i64.wrap (i + 1)))) + 1)) = _
    rw [if_neg h0, wrap_i64 (x := i + 1) (by omega), wrap_i64 (by omega), wr, wr, wr]; congr 1; omega
theorem runfold_any {u : Nat} (hu : u < 2 ^ 64) (w : World) : Calls Try.prog 79 #[.int .u64 (u : Int)] w (PureAt w (.int .i64 (unfoldN u))) := by
  refine calls_at (tab_ok _) Try.func79 rfl tRUnfold (ρ := ⟨[(u : Int)], [], [], [], []⟩) (ids := []) rfl (Facts.initP rfl oneNil) ?_
  have e1 : Int.tmod (u : Int) 2 = ((u % 2 : Nat) : Int) := rfl
  have e2 : IntKind.u64.wrap (Int.tdiv (u : Int) 2) = ((u / 2 : Nat) : Int) := by
    show IntKind.u64.wrap ((u / 2 : Nat) : Int) = _
    exact IntWalk.u64_in _ (by omega)
  unfold unfoldN
  by_cases h : u % 2 = 0
  · refine br_t (show (Int.tmod (u : Int) 2 == 0) = true by rw [e1, h]; rfl) (pure_done fun _ => ?_)
    show Value.int .i64 (IntKind.i64.wrap (IntKind.u64.wrap (Int.tdiv (u : Int) 2))) = _
    rw [e2, if_pos h, wrap_i64 (by omega)]
  · refine br_f (show (Int.tmod (u : Int) 2 == 0) = false by rw [e1, show u % 2 = 1 by omega]; rfl) (pure_done fun _ => ?_)
    show Value.int .i64 (IntKind.i64.wrap (IntKind.i64.wrap (0 - IntKind.i64.wrap (IntKind.u64.wrap (Int.tdiv (u : Int) 2))) - 1)) = _
    rw [e2, if_neg h, wrap_i64 (x := ((u / 2 : Nat) : Int)) (by omega), wrap_i64 (x := 0 - ((u / 2 : Nat) : Int)) (by omega), wrap_i64 (by omega)]
    congr 1; omega
end Go.Proofs.Ytadgaefmoobcoaa
