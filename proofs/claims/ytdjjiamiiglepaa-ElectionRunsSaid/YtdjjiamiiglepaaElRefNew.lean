/- synodref17.New. -/
import Derived.Test.YtdjjiamiiglepaaElRef
namespace Go.Proofs.Ytdjjiamiiglepaa
open Go.ChangeShapes Go.WideShapes Go.ChangeAt Go.RowKit Go.Syn
set_option linter.unusedVariables false
set_option linter.unusedSimpArgs false

def RefNewAt (w : World) (xs : List Int) (s : Tm) (e : Ending) (w' : World) : Prop :=
  ∃ ma mc, e = .returned (.tuple #[.agg (tmCells ma xs.length mc s).toArray, .bool true]) ∧ Ints w' ma xs ∧ Below w.heap.size w w' ∧ w.heap.size ≤ blk ma

set_option maxHeartbeats 2000000 in
theorem refNew_any (a : Option Addr) (cap : Nat) (xs : List Int) (me base most now : Int) (w : World) (h : Ints w a xs) (ok : setOkB xs = true) :
    Calls Try.prog 12 #[.int .i64 me, .slice a xs.length cap, .int .i64 base, .int .i64 most, .int .i64 now] w
      fun e w' => RefNewAt w xs (newTm me base most now) e w' := by
  have S := Lib.hid (setOkB_iff.1 ok)
  have l0 := S.out.1
  have l7 := S.out.2.1
  have H := Lib.hid h; clear h
  have N1 := Lib.hid (show nearV base 1 1048576 = max 1 (min base 1048576) by unfold nearV; split <;> (try split) <;> omega)
  have N2 := Lib.hid (show nearV most (max 1 (min base 1048576)) 1048576 = max (max 1 (min base 1048576)) (min most 1048576) by unfold nearV; split <;> (try split) <;> omega)
  have E := Lib.hid (show newTm me base most now = ⟨me, max 1 (min base 1048576), max (max 1 (min base 1048576)) (min most 1048576), max 1 (min base 1048576), now, 0⟩ from rfl)
  generalize max 1 (min base 1048576) = B at *
  generalize max B (min most 1048576) = M at *
  go_enter Try.func12, Try.ntmps12
  go_wp2_with fail
  have BZ0 : Blk (w.alloc (.cells #[.int .i64 0, .slice none 0 0, .int .i64 0, .int .i64 0, .int .i64 0, .int .i64 0, .int .i64 0] 35)) w.heap.size _ 35 := Blk.new w [.int .i64 0, .slice none 0 0, .int .i64 0, .int .i64 0, .int .i64 0, .int .i64 0, .int .i64 0] _
  refine (refRight_any _ _ _ _ (H.out.ext (by repeat (first | exact Below.refl _ _ | assumption | (refine Below.setCell ?_ (by first | omega | (simp; omega) | (simp; done)) _) | (refine below_drewN ?_ _) | (refine Below.drew ?_) | (refine Below.allocW ?_ _) | (refine Below.alloc ?_ (by first | omega | (simp; omega) | (simp; done)) _))))).mono ?_; rintro e w1 ⟨rfl, hb1⟩
  rw [ok]
  have BZ1 := BZ0.ext hb1
  replace hb1 : Below w.heap.size w w1 := Below.step (W := w) (by repeat (first | exact Below.refl _ _ | assumption | (refine Below.setCell ?_ (by first | omega | (simp; omega) | (simp; done)) _) | (refine below_drewN ?_ _) | (refine Below.drew ?_) | (refine Below.allocW ?_ _) | (refine Below.alloc ?_ (by first | omega | (simp; omega) | (simp; done)) _))) hb1
  have hz1 := hb1.size
  have hlt := BZ1.lt
  clear BZ0
  go_wp2_with fail
  refine (refNear_any _ _ _ _).mono ?_; rintro e w' ⟨rfl, rfl⟩; rw [N1.out]
  go_wp2_with (at_builtin; refine clone_ints rfl _ _ rfl _ rfl (heap_at _ _ _ (by simp)) _ _ _ rfl (H.out.ext (by repeat (first | exact Below.refl _ _ | assumption | (refine Below.setCell ?_ (by first | omega | (simp; omega) | (simp; done)) _) | (refine below_drewN ?_ _) | (refine Below.drew ?_) | (refine Below.allocW ?_ _) | (refine Below.alloc ?_ (by first | omega | (simp; omega) | (simp; done)) _)))) (by omega) ?_; intro g2 cap2 w3 hb3 I3 ow3)
  have hw3 : Below w1.heap.size w1 w3 := ((Below.refl _ _).allocW _).trans (hb3.mono (Nat.le_refl _))
  have BZ3 := BZ1.ext hw3
  have hg2 := (ow3.lt g2 rfl).1
  have hne : g2 ≠ w.heap.size := by omega
  have f0 := BZ3.frozen 0
  have f1 := BZ3.frozen 1
  have f2 := BZ3.frozen 2
  have f3 := BZ3.frozen 3
  have f4 := BZ3.frozen 4
  have f5 := BZ3.frozen 5
  have f6 := BZ3.frozen 6
  have c0 := BZ3.cell 0 _ rfl
  have c1 := BZ3.cell 1 _ rfl
  have c2 := BZ3.cell 2 _ rfl
  have c3 := BZ3.cell 3 _ rfl
  have c4 := BZ3.cell 4 _ rfl
  have c5 := BZ3.cell 5 _ rfl
  have c6 := BZ3.cell 6 _ rfl
  have l3 := BZ3.lt
  replace BZ3 := Lib.hid BZ3
  have W3 := Lib.hid (hb1.trans (hw3.mono hz1))
  replace I3 := Lib.hid I3
  clear BZ1 hb3 hb1 hw3 ow3
  refine (refNear_any _ _ _ _).mono ?_; rintro e w' ⟨rfl, rfl⟩; rw [N2.out]
  go_wp2_with fail
  have G := (((((((grown_refl w3 w.heap.size |> fun h => grown_set h 0 (.int .i64 me)) |> fun h => grown_set h 1 (.slice (some ⟨g2, 0, none⟩) xs.length cap2)) |> fun h => grown_set h 2 (.int .i64 B)) |> fun h => grown_set h 3 (.int .i64 M)) |> fun h => grown_set h 4 (.int .i64 B)) |> fun h => grown_set h 5 (.int .i64 now)) |> fun h => grown_set h 6 (.int .i64 0))
  refine bodyPost_ret (v := .tuple #[.agg #[.int .i64 me, .slice (some ⟨g2, 0, none⟩) xs.length cap2, .int .i64 B, .int .i64 M, .int .i64 B, .int .i64 now, .int .i64 0], .bool true]) (by simp [results, Try.results12, go_sem, c0, c1, c2, c3, c4, c5, c6]) rfl ?_
  exact ⟨some ⟨g2, 0, none⟩, cap2, by rw [E.out]; rfl, I3.out.grown G hne, below_grown W3.out G (Nat.le_refl _), by show w.heap.size ≤ g2; omega⟩

set_option maxHeartbeats 2000000 in
theorem refNew_none (a : Option Addr) (cap : Nat) (xs : List Int) (me base most now : Int) (w : World) (h : Ints w a xs) (ok : setOkB xs = false) :
    Calls Try.prog 12 #[.int .i64 me, .slice a xs.length cap, .int .i64 base, .int .i64 most, .int .i64 now] w
      fun e w' => e = .returned (.tuple #[.agg #[.int .i64 0, .slice none 0 0, .int .i64 0, .int .i64 0, .int .i64 0, .int .i64 0, .int .i64 0], .bool false]) ∧ Below w.heap.size w w' := by
  have H := Lib.hid h; clear h
  go_enter Try.func12, Try.ntmps12
  go_wp2_with fail
  have BZ0 : Blk (w.alloc (.cells #[.int .i64 0, .slice none 0 0, .int .i64 0, .int .i64 0, .int .i64 0, .int .i64 0, .int .i64 0] 35)) w.heap.size _ 35 := Blk.new w [.int .i64 0, .slice none 0 0, .int .i64 0, .int .i64 0, .int .i64 0, .int .i64 0, .int .i64 0] _
  refine (refRight_any _ _ _ _ (H.out.ext (by repeat (first | exact Below.refl _ _ | assumption | (refine Below.setCell ?_ (by first | omega | (simp; omega) | (simp; done)) _) | (refine below_drewN ?_ _) | (refine Below.drew ?_) | (refine Below.allocW ?_ _) | (refine Below.alloc ?_ (by first | omega | (simp; omega) | (simp; done)) _))))).mono ?_; rintro e w3 ⟨rfl, hb1⟩
  rw [ok]
  have BZ3 := BZ0.ext hb1
  have W3 : Below w.heap.size w w3 := Below.step (W := w) (by repeat (first | exact Below.refl _ _ | assumption | (refine Below.setCell ?_ (by first | omega | (simp; omega) | (simp; done)) _) | (refine below_drewN ?_ _) | (refine Below.drew ?_) | (refine Below.allocW ?_ _) | (refine Below.alloc ?_ (by first | omega | (simp; omega) | (simp; done)) _))) hb1
  have f0 := BZ3.frozen 0
  have c0 := BZ3.cell 0 _ rfl
  have f1 := BZ3.frozen 1
  have c1 := BZ3.cell 1 _ rfl
  have f2 := BZ3.frozen 2
  have c2 := BZ3.cell 2 _ rfl
  have f3 := BZ3.frozen 3
  have c3 := BZ3.cell 3 _ rfl
  have f4 := BZ3.frozen 4
  have c4 := BZ3.cell 4 _ rfl
  have f5 := BZ3.frozen 5
  have c5 := BZ3.cell 5 _ rfl
  have f6 := BZ3.frozen 6
  have c6 := BZ3.cell 6 _ rfl
  have l3 := BZ3.lt
  replace W3 := Lib.hid W3
  clear BZ0 BZ3 hb1
  go_wp2_with fail
  have G := (((((((grown_refl w3 w.heap.size |> fun h => grown_set h 0 (.int .i64 0)) |> fun h => grown_set h 1 (.slice none 0 0)) |> fun h => grown_set h 2 (.int .i64 0)) |> fun h => grown_set h 3 (.int .i64 0)) |> fun h => grown_set h 4 (.int .i64 0)) |> fun h => grown_set h 5 (.int .i64 0)) |> fun h => grown_set h 6 (.int .i64 0))
  exact bodyPost_ret (v := .tuple #[.agg #[.int .i64 0, .slice none 0 0, .int .i64 0, .int .i64 0, .int .i64 0, .int .i64 0, .int .i64 0], .bool false]) (by simp [results, Try.results12, go_sem, c0, c1, c2, c3, c4, c5, c6]) rfl ⟨rfl, below_grown W3.out G (Nat.le_refl _)⟩
end Go.Proofs.Ytdjjiamiiglepaa
