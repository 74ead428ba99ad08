/- election.New. -/
import Derived.Test.YtdjjiamiiglepaaElection
import Derived.Test.YtdjjiamiiglepaaClone
namespace Go.Proofs.Ytdjjiamiiglepaa
open Go.ChangeShapes Go.WideShapes Go.ChangeAt Go.RowKit Go.Syn
set_option linter.unusedVariables false
set_option linter.unusedSimpArgs false

theorem nil_members {ops : Array Oper} {rest : List Oper} {o : Oper} {a : Act} {Q : Exit → Act → World → Prop} {w : World} (hgd : Region.wanted o (yielded ops a.tmps) = true) (s x : Operand)
    (ho : o.op = .call { callee := .builtin .append, args := #[s, x], argTypes := #[44, 22] }) (hs : a.eval s = .slice none 0 0)
    (ao : Option Addr) (c : Nat) (xs : List Int) (h0 : 0 < xs.length) (hx : a.eval x = .slice ao xs.length c) (I : Ints w ao xs) (hb : xs.length * 8 ≤ 140737488351232)
    (h : ∀ cap' w', Below w.heap.size w w' → Ints w' (some ⟨w.heap.size, 0, none⟩) xs → wpList Try.prog ops Q rest (a.put o.dst (.slice (some ⟨w.heap.size, 0, none⟩) xs.length cap')) w') :
    wpList Try.prog ops Q (o :: rest) a w := by
  obtain ⟨i0, hi, hz0, hz1, hz2⟩ := info_parts info_int
  refine wpList_append_nil hgd s x 44 22 ho 3 3 i0 (.int .i64 0) 1 8 Try.underlying44 Try.underlying22 hi hz0 hz1 hz2 rfl (by decide) hs ao xs.length c h0 (xs.map (Value.int .i64)) hx (by simp) I.cells (ints_oneCell _ _) I.len (by omega) ?_
  intro cap' w' _ h2 h3
  exact h cap' w' h2 (Ints.of_cells I.len I.fits h3)

theorem heap_size_alloc (w : World) (o : Obj) : (w.alloc o).heap.size = w.heap.size + 1 := by simp
/-- What New leaves: a timer, the members' copy right ahead of it. -/
def NewAt (w : World) (xs : List Int) (s : Tm) (e : Ending) (w' : World) : Prop :=
  ∃ b ma mc, e = .returned (.pointer (some ⟨b, 0, none⟩)) ∧ Tmr w' b ma mc xs s ∧ Below w.heap.size w w' ∧ w.heap.size ≤ b ∧ w.heap.size ≤ blk ma ∧ blk ma < b ∧ b + 1 = w'.heap.size

set_option maxHeartbeats 2000000 in
theorem new_any (a : Option Addr) (cap : Nat) (xs : List Int) (me base most now : Int) (w : World) (h : Ints w a xs) (ok : setOkB xs = true) :
    Calls Try.prog 8 #[.int .i64 me, .slice a xs.length cap, .int .i64 base, .int .i64 most, .int .i64 now] w
      fun e w' => NewAt w xs (newTm me base most now) e w' := by
  have C := Lib.hid (show checkV xs = 0 by simp [checkV, ok])
  have S := Lib.hid (setOkB_iff.1 ok)
  have l0 := S.out.1
  have l7 := S.out.2.1
  have H := Lib.hid h; clear h ok
  go_enter Try.func8, Try.ntmps8
  go_wp2_with (first
    | (go_at_call 16; refine (check_any _ _ _ _ H.out).mono ?_; rintro e w' ⟨rfl, rfl⟩; rw [C.out])
    | (at_builtin; refine nil_members rfl _ _ rfl rfl _ _ _ l0 rfl H.out (by omega) ?_; intro cap2 w2 hb2 I2))
  all_goals
    go_ret
    unfold NewAt
    refine ⟨w2.heap.size, some ⟨w.heap.size, 0, none⟩, cap2, rfl, ⟨blk_to (Blk.new w2 _ _) ?_, I2.ext (by exact (Below.refl _ _).allocW _), ?_⟩, hb2.alloc hb2.size _, hb2.size, Nat.le_refl _, ?_, ?_⟩
  all_goals try (exact (heap_size_alloc _ _).symm)
  all_goals try (have := hb2.size; have := (I2.at_ l0).2.1; simp only [blk_some] at *; simp; omega)
  all_goals try (unfold newTm tmCells; simp; try omega)

theorem new_none (a : Option Addr) (cap : Nat) (xs : List Int) (me base most now : Int) (w : World) (h : Ints w a xs) (ok : setOkB xs = false) :
    Calls Try.prog 8 #[.int .i64 me, .slice a xs.length cap, .int .i64 base, .int .i64 most, .int .i64 now] w
      fun e w' => e = .returned (.pointer none) ∧ w = w' := by
  have C := Lib.hid (show checkV xs = 24 by simp [checkV, ok])
  have H := Lib.hid h; clear h ok
  go_enter Try.func8, Try.ntmps8
  go_wp2_with (go_at_call 16; refine (check_any _ _ _ _ H.out).mono ?_; rintro e w' ⟨rfl, rfl⟩; rw [C.out])
  go_ret
  exact ⟨rfl, rfl⟩
end Go.Proofs.Ytdjjiamiiglepaa
