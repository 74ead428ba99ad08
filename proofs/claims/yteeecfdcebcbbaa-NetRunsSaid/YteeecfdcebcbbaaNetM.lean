/- The net's methods. -/
import Derived.Test.YteeecfdcebcbbaaNetDel
namespace Go.Proofs.Yteeecfdcebcbbaa
open Go.ChangeShapes Go.WideShapes Go.ChangeAt Go.RowKit Go.Syn Go.Eng
set_option linter.unusedVariables false
set_option linter.unusedSimpArgs false
set_option maxRecDepth 100000 in
theorem tNPut : (runF ⟨tt, fns, {}⟩ (Try.f8.body.getD .skip) Try.f8.results.toList (entry Try.f8.ntmps [.lf (.ptr 0 0), .agg [.int .i64 (.var 0), .int .i64 (.var 1), .sl 1 (.var 2) (.var 3)]] [(49, [.sl 0 (.var 0) (.var 1)])] ⟨2, 0, 0, 4, 2⟩)) =
  (.br (.cmp .lss (.mn (.var 0) (.var 1)) (.lit 0)) (.done (.lf (.int .i64 (.lit 1))) ⟨[(49, [(.sl 0 (.var 0) (.var 1))]), (30, [(.int .i64 (.var 0)), (.int .i64 (.var 1)), (.sl 1 (.var 2) (.var 3))])], ⟨2, 0, 0, 4, 2⟩⟩) (.br (.cmp .gtr (.mx (.var 0) (.var 1)) (.lit 9)) (.done (.lf (.int .i64 (.lit 1))) ⟨[(49, [(.sl 0 (.var 0) (.var 1))]), (30, [(.int .i64 (.var 0)), (.int .i64 (.var 1)), (.sl 1 (.var 2) (.var 3))])], ⟨2, 0, 0, 4, 2⟩⟩) (.br (.cmp .gtr (.nat 2) (.lit 65536)) (.done (.lf (.int .i64 (.lit 12))) ⟨[(49, [(.sl 0 (.var 0) (.var 1))]), (30, [(.int .i64 (.var 0)), (.int .i64 (.var 1)), (.sl 1 (.var 2) (.var 3))])], ⟨2, 0, 0, 4, 2⟩⟩) (.br (.cmp .geq (.nat 0) (.lit 512)) (.done (.lf (.int .i64 (.lit 43))) ⟨[(49, [(.sl 0 (.var 0) (.var 1))]), (30, [(.int .i64 (.var 0)), (.int .i64 (.var 1)), (.sl 1 (.var 2) (.var 3))])], ⟨2, 0, 0, 4, 2⟩⟩) (.call 20 [(.lf (.sl 1 (.var 2) (.var 3)))] ⟨[(49, [(.sl 0 (.var 0) (.var 1))]), (30, [(.int .i64 (.var 0)), (.int .i64 (.var 1)), (.sl 1 (.var 2) (.var 3))])], ⟨2, 0, 0, 4, 2⟩⟩ (.lf (.sl 2 (.var 4) (.var 5))) ⟨[(49, [(.sl 0 (.var 0) (.var 1))]), (30, [(.int .i64 (.var 0)), (.int .i64 (.var 1)), (.sl 1 (.var 2) (.var 3))])], ⟨2, 0, 0, 6, 3⟩⟩ (.par (.gen (.call ⟨(.builtin .append), #[(.tmp 44), (.tmp 46)], #[38, 38]⟩) 38 [(44, (.lf (.sl 0 (.var 0) (.var 1)))), (46, (.lf (.nsl 2 0 1 1)))] ⟨[(49, [(.sl 0 (.var 0) (.var 1))]), (30, [(.int .i64 (.var 0)), (.int .i64 (.var 1)), (.sl 2 (.var 4) (.var 5))]), (30, [(.int .i64 (.var 0)), (.int .i64 (.var 1)), (.sl 2 (.var 4) (.var 5))])], ⟨2, 0, 0, 6, 3⟩⟩ (.some (.lf (.sl 3 (.var 6) (.var 7)))) ⟨[(49, [(.sl 0 (.var 0) (.var 1))]), (30, [(.int .i64 (.var 0)), (.int .i64 (.var 1)), (.sl 2 (.var 4) (.var 5))]), (30, [(.int .i64 (.var 0)), (.int .i64 (.var 1)), (.sl 2 (.var 4) (.var 5))])], ⟨2, 0, 0, 8, 4⟩⟩ (.done (.lf (.int .i64 (.lit 0))) ⟨[(49, [(.sl 3 (.var 6) (.var 7))]), (30, [(.int .i64 (.var 0)), (.int .i64 (.var 1)), (.sl 2 (.var 4) (.var 5))]), (30, [(.int .i64 (.var 0)), (.int .i64 (.var 1)), (.sl 2 (.var 4) (.var 5))])], ⟨2, 0, 0, 8, 4⟩⟩)) (.gen (.call ⟨(.builtin .append), #[(.tmp 44), (.tmp 46)], #[38, 38]⟩) 38 [(44, (.lf (.sl 0 (.var 0) (.var 1)))), (46, (.lf (.nsl 2 0 1 1)))] ⟨[(49, [(.sl 0 (.var 0) (.var 1))]), (30, [(.int .i64 (.var 0)), (.int .i64 (.var 1)), (.sl 2 (.var 4) (.var 5))]), (30, [(.int .i64 (.var 0)), (.int .i64 (.var 1)), (.sl 2 (.var 4) (.var 5))])], ⟨2, 0, 0, 6, 3⟩⟩ (.some (.lf (.sl 3 (.var 6) (.var 7)))) ⟨[(49, [(.sl 0 (.var 0) (.var 1))]), (30, [(.int .i64 (.var 0)), (.int .i64 (.var 1)), (.sl 2 (.var 4) (.var 5))]), (30, [(.int .i64 (.var 0)), (.int .i64 (.var 1)), (.sl 2 (.var 4) (.var 5))])], ⟨2, 0, 0, 8, 4⟩⟩ (.done (.lf (.int .i64 (.lit 0))) ⟨[(49, [(.sl 3 (.var 6) (.var 7))]), (30, [(.int .i64 (.var 0)), (.int .i64 (.var 1)), (.sl 2 (.var 4) (.var 5))]), (30, [(.int .i64 (.var 0)), (.int .i64 (.var 1)), (.sl 2 (.var 4) (.var 5))])], ⟨2, 0, 0, 8, 4⟩⟩)))))))) := by kernel_rfl
set_option maxRecDepth 100000 in
theorem tNLen : (runF ⟨tt, fns, {}⟩ (Try.f11.body.getD .skip) Try.f11.results.toList (entry Try.f11.ntmps [.lf (.ptr 0 0)] [(49, [.sl 0 (.var 0) (.var 1)])] ⟨0, 0, 0, 2, 1⟩)) =
  (.done (.lf (.int .i64 (.nat 0))) ⟨[(49, [(.sl 0 (.var 0) (.var 1))])], ⟨0, 0, 0, 2, 1⟩⟩) := by kernel_rfl
set_option maxRecDepth 100000 in
theorem tNHas : (runF ⟨tt, fns, {}⟩ (Try.f21.body.getD .skip) Try.f21.results.toList (entry Try.f21.ntmps [.lf (.ptr 0 0), .lf (.int .i64 (.var 0))] [(49, [.sl 0 (.var 0) (.var 1)])] ⟨1, 0, 0, 2, 1⟩)) =
  (.br (.cmp .geq (.var 0) (.lit 0)) (.done (.lf (.bool (.cmp .lss (.var 0) (.nat 0)))) ⟨[(49, [(.sl 0 (.var 0) (.var 1))])], ⟨1, 0, 0, 2, 1⟩⟩) (.done (.lf (.bool (.lit .false))) ⟨[(49, [(.sl 0 (.var 0) (.var 1))])], ⟨1, 0, 0, 2, 1⟩⟩)) := by kernel_rfl
set_option maxRecDepth 100000 in
theorem tNTake : (runF ⟨tt, fns, {cur := [0]}⟩ (Try.f12.body.getD .skip) Try.f12.results.toList (entry Try.f12.ntmps [.lf (.ptr 0 0), .lf (.int .i64 (.var 0))] [(49, [.sl 0 (.var 0) (.var 1)])] ⟨1, 0, 0, 2, 1⟩)) =
  (.call 21 [(.lf (.ptr 0 0)), (.lf (.int .i64 (.var 0)))] ⟨[(49, [(.sl 0 (.var 0) (.var 1))]), (30, [(.int .i64 (.lit 0)), (.int .i64 (.lit 0)), .nilsl])], ⟨1, 0, 0, 2, 1⟩⟩ (.lf (.bool (.var 0))) ⟨[(49, [(.sl 0 (.var 0) (.var 1))]), (30, [(.int .i64 (.lit 0)), (.int .i64 (.lit 0)), .nilsl])], ⟨1, 1, 0, 2, 1⟩⟩ (.br (.not (.var 0)) (.done (.tup [(.true, [(.int .i64 (.lit 0)), (.int .i64 (.lit 0)), .nilsl]), (.false, [(.bool (.lit .false))])]) ⟨[(49, [(.sl 0 (.var 0) (.var 1))]), (30, [(.int .i64 (.lit 0)), (.int .i64 (.lit 0)), .nilsl])], ⟨1, 1, 0, 2, 1⟩⟩) (.need (.inb 0 (.var 0) (.nat 0)) (.ld .true (.adr 0 (.var 0) 3 0) [(.int .i64 (.var 1)), (.int .i64 (.var 2)), (.sl 1 (.var 2) (.var 3))] ⟨[(49, [(.sl 0 (.var 0) (.var 1))]), (30, [(.int .i64 (.lit 0)), (.int .i64 (.lit 0)), .nilsl])], ⟨1, 1, 0, 2, 1⟩⟩ ⟨[(49, [(.sl 0 (.var 0) (.var 1))]), (30, [(.int .i64 (.lit 0)), (.int .i64 (.lit 0)), .nilsl])], ⟨3, 1, 0, 4, 2⟩⟩ (.call 22 [(.lf (.sl 0 (.var 0) (.var 1))), (.lf (.int .i64 (.var 0))), (.lf (.int .i64 (.op .add .i64 (.var 0) (.lit 1))))] ⟨[(49, [(.sl 0 (.var 0) (.var 1))]), (30, [(.int .i64 (.lit 0)), (.int .i64 (.lit 0)), .nilsl]), (30, [(.int .i64 (.var 1)), (.int .i64 (.var 2)), (.sl 1 (.var 2) (.var 3))])], ⟨3, 1, 0, 4, 2⟩⟩ (.lf (.sl 2 (.var 4) (.var 5))) ⟨[(49, [(.sl 0 (.var 0) (.var 1))]), (30, [(.int .i64 (.lit 0)), (.int .i64 (.lit 0)), .nilsl]), (30, [(.int .i64 (.var 1)), (.int .i64 (.var 2)), (.sl 1 (.var 2) (.var 3))])], ⟨3, 1, 0, 6, 3⟩⟩ (.done (.tup [(.true, [(.int .i64 (.var 1)), (.int .i64 (.var 2)), (.sl 1 (.var 2) (.var 3))]), (.false, [(.bool (.lit .true))])]) ⟨[(49, [(.sl 2 (.var 4) (.var 5))]), (30, [(.int .i64 (.var 1)), (.int .i64 (.var 2)), (.sl 1 (.var 2) (.var 3))]), (30, [(.int .i64 (.var 1)), (.int .i64 (.var 2)), (.sl 1 (.var 2) (.var 3))])], ⟨3, 1, 0, 6, 3⟩⟩)))))) := by kernel_rfl
set_option maxRecDepth 100000 in
theorem tNCopy : (runF ⟨tt, fns, {cur := [0], touch := [(8, [0])]}⟩ (Try.f10.body.getD .skip) Try.f10.results.toList (entry Try.f10.ntmps [.lf (.ptr 0 0), .lf (.int .i64 (.var 0))] [(49, [.sl 0 (.var 0) (.var 1)])] ⟨1, 0, 0, 2, 1⟩)) =
  (.call 21 [(.lf (.ptr 0 0)), (.lf (.int .i64 (.var 0)))] ⟨[(49, [(.sl 0 (.var 0) (.var 1))])], ⟨1, 0, 0, 2, 1⟩⟩ (.lf (.bool (.var 0))) ⟨[(49, [(.sl 0 (.var 0) (.var 1))])], ⟨1, 1, 0, 2, 1⟩⟩ (.br (.var 0) (.need (.inb 0 (.var 0) (.nat 0)) (.ld .true (.adr 0 (.var 0) 3 0) [(.int .i64 (.var 1)), (.int .i64 (.var 2)), (.sl 1 (.var 2) (.var 3))] ⟨[(49, [(.sl 0 (.var 0) (.var 1))])], ⟨1, 1, 0, 2, 1⟩⟩ ⟨[(49, [(.sl 0 (.var 0) (.var 1))])], ⟨3, 1, 0, 4, 2⟩⟩ (.call 8 [(.lf (.ptr 0 0)), (.agg [(.int .i64 (.var 1)), (.int .i64 (.var 2)), (.sl 1 (.var 2) (.var 3))])] ⟨[(49, [(.sl 0 (.var 0) (.var 1))])], ⟨3, 1, 0, 4, 2⟩⟩ (.lf (.int .i64 (.var 3))) ⟨[(49, [(.sl 2 (.var 4) (.var 5))])], ⟨4, 1, 0, 6, 3⟩⟩ (.done (.lf (.bool (.cmp .eql (.var 3) (.lit 0)))) ⟨[(49, [(.sl 2 (.var 4) (.var 5))])], ⟨4, 1, 0, 6, 3⟩⟩)))) (.done (.lf (.bool (.lit .false))) ⟨[(49, [(.sl 0 (.var 0) (.var 1))])], ⟨1, 1, 0, 2, 1⟩⟩))) := by kernel_rfl
set_option maxRecDepth 100000 in
theorem tNList : (runF ⟨tt, fns, {cur := [0], loops := [(4, ⟨[(13, .int .i64), (3, .sl)], []⟩)]}⟩ (Try.f19.body.getD .skip) Try.f19.results.toList (entry Try.f19.ntmps [.lf (.ptr 0 0)] [(49, [.sl 0 (.var 0) (.var 1)])] ⟨0, 0, 0, 2, 1⟩)) =
  (.loop 4 ⟨[(.lit 0)], [], [], [(.lit 0), (.lit 0)], [.nil]⟩ ⟨[(49, [(.sl 0 (.var 0) (.var 1))])], ⟨0, 0, 0, 2, 1⟩⟩ ⟨[(49, [(.sl 0 (.var 0) (.var 1))])], ⟨1, 0, 0, 4, 2⟩⟩ (.br (.cmp .lss (.var 0) (.nat 0)) (.need (.inb 0 (.var 0) (.nat 0)) (.ld .true (.adr 0 (.var 0) 3 0) [(.int .i64 (.var 1)), (.int .i64 (.var 2)), (.sl 2 (.var 4) (.var 5))] ⟨[(49, [(.sl 0 (.var 0) (.var 1))])], ⟨1, 0, 0, 4, 2⟩⟩ ⟨[(49, [(.sl 0 (.var 0) (.var 1))])], ⟨3, 0, 0, 6, 3⟩⟩ (.call 20 [(.lf (.sl 2 (.var 4) (.var 5)))] ⟨[(49, [(.sl 0 (.var 0) (.var 1))]), (30, [(.int .i64 (.var 1)), (.int .i64 (.var 2)), (.sl 2 (.var 4) (.var 5))])], ⟨3, 0, 0, 6, 3⟩⟩ (.lf (.sl 3 (.var 6) (.var 7))) ⟨[(49, [(.sl 0 (.var 0) (.var 1))]), (30, [(.int .i64 (.var 1)), (.int .i64 (.var 2)), (.sl 2 (.var 4) (.var 5))])], ⟨3, 0, 0, 8, 4⟩⟩ (.gen (.call ⟨(.builtin .append), #[(.tmp 21), (.tmp 23)], #[38, 38]⟩) 38 [(21, (.lf (.sl 1 (.var 2) (.var 3)))), (23, (.lf (.nsl 2 0 1 1)))] ⟨[(49, [(.sl 0 (.var 0) (.var 1))]), (30, [(.int .i64 (.var 1)), (.int .i64 (.var 2)), (.sl 3 (.var 6) (.var 7))]), (30, [(.int .i64 (.var 1)), (.int .i64 (.var 2)), (.sl 3 (.var 6) (.var 7))])], ⟨3, 0, 0, 8, 4⟩⟩ (.some (.lf (.sl 4 (.var 8) (.var 9)))) ⟨[(49, [(.sl 0 (.var 0) (.var 1))]), (30, [(.int .i64 (.var 1)), (.int .i64 (.var 2)), (.sl 3 (.var 6) (.var 7))]), (30, [(.int .i64 (.var 1)), (.int .i64 (.var 2)), (.sl 3 (.var 6) (.var 7))])], ⟨3, 0, 0, 10, 5⟩⟩ (.again 4 ⟨[(.op .add .i64 (.var 0) (.lit 1))], [], [], [(.var 8), (.var 9)], [(.var 4)]⟩ ⟨[(49, [(.sl 0 (.var 0) (.var 1))]), (30, [(.int .i64 (.var 1)), (.int .i64 (.var 2)), (.sl 3 (.var 6) (.var 7))]), (30, [(.int .i64 (.var 1)), (.int .i64 (.var 2)), (.sl 3 (.var 6) (.var 7))])], ⟨3, 0, 0, 10, 5⟩⟩))))) (.done (.lf (.sl 1 (.var 2) (.var 3))) ⟨[(49, [(.sl 0 (.var 0) (.var 1))])], ⟨1, 0, 0, 4, 2⟩⟩))) := by kernel_rfl
/-- A packet, as it lies. -/
structure Pk where
  f : Int
  t : Int
  a : Option Addr
  c : Nat
  bs : List Int
/-- A packet, plain. -/
structure PkD where
  f : Int
  t : Int
  bs : List Int
def Pk.d (p : Pk) : PkD := ⟨p.f, p.t, p.bs⟩
def Pk.cells (p : Pk) : List Value := [.int .i64 p.f, .int .i64 p.t, .slice p.a p.bs.length p.c]
def pcells (ps : List Pk) : List Value := ps.flatMap Pk.cells
theorem pcells_len : ∀ (ps : List Pk), (pcells ps).length = ps.length * 3
  | [] => rfl
  | p :: r => by
    show (Pk.cells p ++ pcells r).length = _
    rw [List.length_append, pcells_len r, List.length_cons]
    show 3 + _ = _; omega
theorem pcells_one (ps : List Pk) : ∀ u ∈ pcells ps, u.oneCell' = true := fun u hu => by
  obtain ⟨p, _, h⟩ := List.mem_flatMap.1 hu
  simp [Pk.cells] at h
  rcases h with rfl | rfl | rfl <;> rfl
theorem pcells_get : ∀ {ps : List Pk} {i : Nat} {p : Pk}, ps[i]? = some p → ∀ j u, p.cells[j]? = some u → (pcells ps)[i * 3 + j]? = some u
  | q :: r, 0, p, h, j, u, hu => by
    simp only [List.getElem?_cons_zero, Option.some.injEq] at h
    subst h
    show (Pk.cells q ++ pcells r)[0 * 3 + j]? = _
    have hj : j < q.cells.length := by
      rcases Nat.lt_or_ge j q.cells.length with g | g
      · exact g
      · rw [List.getElem?_eq_none g] at hu; cases hu
    rw [List.getElem?_append_left (by omega), Nat.zero_mul, Nat.zero_add]; exact hu
  | q :: r, i + 1, p, h, j, u, hu => by
    simp only [List.getElem?_cons_succ] at h
    show (Pk.cells q ++ pcells r)[(i + 1) * 3 + j]? = _
    have hl : q.cells.length = 3 := rfl
    rw [List.getElem?_append_right (by rw [hl]; omega), hl, show (i + 1) * 3 + j - 3 = i * 3 + j by omega]
    exact pcells_get h j u hu
theorem pcells_erase : ∀ (ps : List Pk) (i : Nat), (pcells ps).take (i * 3) ++ (pcells ps).drop ((i + 1) * 3) = pcells (ps.eraseIdx i)
  | [], i => by simp [pcells]
  | q :: r, 0 => by
    show (Pk.cells q ++ pcells r).take (0 * 3) ++ (Pk.cells q ++ pcells r).drop 3 = _
    simp [Pk.cells]
  | q :: r, i + 1 => by
    have ih := pcells_erase r i
    have hl : q.cells.length = 3 := rfl
    show (Pk.cells q ++ pcells r).take ((i + 1) * 3) ++ (Pk.cells q ++ pcells r).drop ((i + 1 + 1) * 3) = Pk.cells q ++ pcells (r.eraseIdx i)
    rw [← ih, List.take_append, List.drop_append, hl, List.take_of_length_le (l := q.cells) (by rw [hl]; omega), List.drop_of_length_le (l := q.cells) (by rw [hl]; omega), show (i + 1) * 3 - 3 = i * 3 by omega, show (i + 1 + 1) * 3 - 3 = (i + 1) * 3 by omega, List.nil_append, List.append_assoc]
/-- The packets' bytes. -/
def HX.dats (ps : List Pk) : HX := ⟨fun k => ∃ p ∈ ps, p.bs ≠ [] ∧ k = blk p.a, fun w => ∀ p ∈ ps, Cells w p.a (bcells p.bs), fun w w' h e p hp =>
  (HX.cl p.a (bcells p.bs)).loc w w' (h p hp) fun b hb => e b ⟨p, hp, fun q => hb.1 (by rw [q]; rfl), hb.2⟩⟩
/-- A net's memory beside its own block. -/
def netHX (a : Option Addr) (cap : Nat) (ps : List Pk) : HX := (HX.dats ps).and (HX.rw 3 30 a ps.length cap (pcells ps))
/-- The row's block holds none of the bytes. -/
def Apart (a : Option Addr) (cap : Nat) (ps : List Pk) : Prop := ∀ k, cap ≠ 0 → abk a = some k → ¬ (HX.dats ps).F k
structure NetAt (w : World) (nb : Nat) (a : Option Addr) (cap : Nat) (ps : List Pk) : Prop where
  blk : Blk w nb [.slice a ps.length cap] 49
  mem : (netHX a cap ps).X w
  apart : Apart a cap ps
  sep : ∀ k, (netHX a cap ps).F k → k < w.heap.size ∧ k ≠ nb
/-- What a method of a net does: its own block and its row change. -/
def NetR (w : World) (nb : Nat) (a : Option Addr) (cap : Nat) (ps : List Pk) (D : List PkD) (V : Value) (e : Ending) (w' : World) : Prop :=
  e = .returned V ∧ ∃ a' cap' ps', ps'.map Pk.d = D ∧ Blk w' nb [.slice a' ps'.length cap'] 49 ∧ (netHX a' cap' ps').X w' ∧ Apart a' cap' ps' ∧ Chg (fun x => x = nb ∨ (cap ≠ 0 ∧ abk a = some x)) w w' ∧
    (∀ k, cap' ≠ 0 → abk a' = some k → (cap ≠ 0 ∧ abk a = some k) ∨ w.heap.size ≤ k) ∧ ∀ k, (netHX a' cap' ps').F k → (netHX a cap ps).F k ∨ (w.heap.size ≤ k ∧ k < w'.heap.size)
def putE (D : List PkD) (p : PkD) : Int := if min p.f p.t < 0 ∨ 9 < max p.f p.t then 1 else if 65536 < p.bs.length then 12 else if 512 ≤ D.length then 43 else 0
def putD (D : List PkD) (p : PkD) : List PkD := if putE D p = 0 then D ++ [p] else D
section
variable {C : Cfg} {ρ : Env} {pre : List Nat} {hx : HX} {L : Stack} {m m' : Mem} {args : List SV} {r : SV} {t : Tree}
/-- A call that makes bytes. -/
theorem node_newbs {f : Nat} {sa : List Nat → Option Addr} {cap : Nat} {bs : List Int} (hcall : ∀ w a, Cells w a (bcells bs) → Calls C.P f #[.slice a bs.length cap] w (NewBs w bs)) (hcells : ∀ ids w, pre <+: ids → Facts C m ρ ids hx w → Cells w (sa ids) (bcells bs)) (hargs : ∀ ids, (args.map (SV.den ρ ids)).toArray = #[.slice (sa ids) bs.length cap])
    (hr : ∀ a' c' ids, r.den (ρ.add ⟨[], [], [], [bs.length, c'], [a']⟩) ids = .slice a' bs.length c') (hhp : m'.hp = m.hp) (hfit : hpFits m.c m.hp.length m.hp = true) (hc : ∀ a' c', (ρ.add ⟨[], [], [], [bs.length, c'], [a']⟩).cnt = m'.c)
    (h : ∀ a' c', (bs ≠ [] → C.W.heap.size ≤ blk a' ∧ ¬ hx.F (blk a')) → t.holds C (ρ.add ⟨[], [], [], [bs.length, c'], [a']⟩) pre (hx.and (HX.cl a' (bcells bs))) L) : (Tree.call f args m r m' t).holds C ρ pre hx L := by
  intro ids w hp hf
  rw [hargs]
  refine (hcall w _ (hcells ids w hp hf)).mono ?_
  rintro e w' ⟨a', c', rfl, hX, hge, hbel⟩
  have hg : w.grownBy w' none := ⟨hbel.os, hbel.tape, hbel.output, hbel.size, fun k hk _ => hbel.block k hk⟩
  refine ⟨_, ids, _, by rw [← hr a' c' ids], List.prefix_refl _, hf.turn (hx' := hx.and (HX.cl a' (bcells bs))) hg (fun b e => by cases e) ⟨hx.loc w w' hf.x fun k hk => hbel.block k (hf.sep k hk).1, hX⟩ (fun k hk => ?_) hhp hfit (hc _ _) oneNil, holds_pre t hp (h a' c' (fun hne => ⟨Nat.le_trans hf.chg.size (hge hne), fun q => by have := (hf.sep _ q).1; have := hge hne; omega⟩))⟩
  rcases hk with hk | hk
  · exact .inl hk
  · refine .inr ⟨?_, cl_sep hX k hk⟩
    obtain ⟨h1, rfl⟩ := hk
    exact hge (fun q => h1 (by rw [q]; rfl))
end
theorem net_done {w : World} {nb : Nat} {a : Option Addr} {cap : Nat} {ps : List Pk} {D : List PkD} {V : Value} {v : SV} {ρ : Env} {hx : HX} {L : Stack} {cs : List LV} {r : List (Nat × List LV)} {n : Cnt} (a' : Option Addr) (cap' : Nat) (ps' : List Pk)
    (hv : ∀ ids, v.den ρ ids = V) (hcs : ∀ ids, cellsDen ρ ids cs = [.slice a' ps'.length cap']) (hD : ps'.map Pk.d = D) (hap : Apart a' cap' ps') (hfr : ∀ k, cap' ≠ 0 → abk a' = some k → (cap ≠ 0 ∧ abk a = some k) ∨ w.heap.size ≤ k) (hF : ∀ k, (netHX a' cap' ps').F k → hx.F k) (hX : ∀ w', hx.X w' → (netHX a' cap' ps').X w') (hF2 : ∀ k, (netHX a' cap' ps').F k → (netHX a cap ps).F k ∨ w.heap.size ≤ k) :
    (Tree.done v ⟨(49, cs) :: r, n⟩).holds ⟨Try.prog, w, fun x => x = nb ∨ (cap ≠ 0 ∧ abk a = some x), NetR w nb a cap ps D V⟩ ρ [nb] hx L := fun ids w' hp hf => by
  have h0 := hf.blkAt 0 rfl
  rw [idAt0 hp, hcs ids] at h0
  exact ⟨by rw [hv ids], a', cap', ps', hD, h0, hX w' hf.x, hap, hf.chg, hfr, fun k hk => (hF2 k hk).imp_right fun q => ⟨q, (hf.sep k (hF k hk)).1⟩⟩
theorem net_same {w : World} {nb : Nat} {a : Option Addr} {cap : Nat} {ps : List Pk} {D : List PkD} {V : Value} {v : SV} {ρ : Env} {L : Stack} {cs : List LV} {r : List (Nat × List LV)} {n : Cnt} (hap : Apart a cap ps) (hv : ∀ ids, v.den ρ ids = V) (hcs : ∀ ids, cellsDen ρ ids cs = [.slice a ps.length cap]) (hD : ps.map Pk.d = D) :
    (Tree.done v ⟨(49, cs) :: r, n⟩).holds ⟨Try.prog, w, fun x => x = nb ∨ (cap ≠ 0 ∧ abk a = some x), NetR w nb a cap ps D V⟩ ρ [nb] (netHX a cap ps) L :=
  net_done a cap ps hv hcs hD hap (fun k h1 h2 => .inl ⟨h1, h2⟩) (fun k hk => hk) (fun w' h => h) (fun k hk => .inl hk)
set_option maxRecDepth 100000 in
theorem put_any (nb : Nat) (a : Option Addr) (cap : Nat) (ps : List Pk) (p : PkD) (ad : Option Addr) (cd : Nat) (w : World) (H : NetAt w nb a cap ps) (Hd : Cells w ad (bcells p.bs)) (hsrc : ∀ k, (HX.cl ad (bcells p.bs)).F k → k ≠ nb ∧ ¬ (cap ≠ 0 ∧ abk a = some k)) (hb : p.bs.length ≤ 140737488355328) :
    Calls Try.prog 8 #[.pointer (some ⟨nb, 0, none⟩), .agg #[.int .i64 p.f, .int .i64 p.t, .slice ad p.bs.length cd]] w (NetR w nb a cap ps (putD (ps.map Pk.d) p) (.int .i64 (putE (ps.map Pk.d) p))) := by
  refine calls_at (tab_ok _) Try.func8 rfl tNPut (ρ := ⟨[p.f, p.t], [], [], [ps.length, cap, p.bs.length, cd], [a, ad]⟩) (ids := [nb]) (hx := netHX a cap ps) (M := fun x => x = nb ∨ (cap ≠ 0 ∧ abk a = some x)) rfl (Facts.initx rfl oneNil H.blk rfl (.inl rfl) H.mem H.sep) ?_
  by_cases h1 : min p.f p.t < 0
  · have e1 : putE (ps.map Pk.d) p = 1 := if_pos (.inl h1)
    have e2 : putD (ps.map Pk.d) p = ps.map Pk.d := by unfold putD; rw [e1]; rfl
    rw [e1, e2]
    exact br_t (show decide (min p.f p.t < 0) = true by simpa using h1) (net_same H.apart (fun _ => rfl) (fun _ => rfl) rfl)
  refine br_f (show decide (min p.f p.t < 0) = false by simp; omega) ?_
  by_cases h2 : max p.f p.t > 9
  · have e1 : putE (ps.map Pk.d) p = 1 := if_pos (.inr h2)
    have e2 : putD (ps.map Pk.d) p = ps.map Pk.d := by unfold putD; rw [e1]; rfl
    rw [e1, e2]
    exact br_t (show decide (max p.f p.t > 9) = true by simp; omega) (net_same H.apart (fun _ => rfl) (fun _ => rfl) rfl)
  refine br_f (show decide (max p.f p.t > 9) = false by simp; omega) ?_
  have n1 : ¬ (min p.f p.t < 0 ∨ 9 < max p.f p.t) := by omega
  by_cases h3 : 65536 < p.bs.length
  · have e1 : putE (ps.map Pk.d) p = 12 := by unfold putE; rw [if_neg n1, if_pos h3]
    have e2 : putD (ps.map Pk.d) p = ps.map Pk.d := by unfold putD; rw [e1]; rfl
    rw [e1, e2]
    exact br_t (show decide ((p.bs.length : Int) > 65536) = true by simp; omega) (net_same H.apart (fun _ => rfl) (fun _ => rfl) rfl)
  refine br_f (show decide ((p.bs.length : Int) > 65536) = false by simp; omega) ?_
  by_cases h4 : 512 ≤ ps.length
  · have e1 : putE (ps.map Pk.d) p = 43 := by unfold putE; rw [if_neg n1, if_neg h3, List.length_map, if_pos h4]
    have e2 : putD (ps.map Pk.d) p = ps.map Pk.d := by unfold putD; rw [e1]; rfl
    rw [e1, e2]
    exact br_t (show decide ((ps.length : Int) ≥ 512) = true by simp; omega) (net_same H.apart (fun _ => rfl) (fun _ => rfl) rfl)
  refine br_f (show decide ((ps.length : Int) ≥ 512) = false by simp; omega) ?_
  have e1 : putE (ps.map Pk.d) p = 0 := by unfold putE; rw [if_neg n1, if_neg h3, List.length_map, if_neg h4]
  have e2 : putD (ps.map Pk.d) p = ps.map Pk.d ++ [p] := by unfold putD; rw [e1]; rfl
  rw [e1, e2]
  refine node_newbs (bs := p.bs) (cap := cd) (sa := fun _ => ad) (fun w a h => clone_any a cd p.bs w h hb) (fun ids w2 hp hf => (HX.cl ad (bcells p.bs)).loc w w2 Hd fun b hbb => hf.chg.block b (cl_sep Hd b hbb) fun q => q.elim (hsrc b hbb).1 (hsrc b hbb).2) (fun _ => rfl) (fun _ _ _ => rfl) rfl rfl (fun _ _ => rfl) ?_
  intro a2 c2 hnew
  have eq1 : (netHX a cap ps).and (HX.cl a2 (bcells p.bs)) = ((HX.dats ps).and (HX.cl a2 (bcells p.bs))).and (HX.rw 3 30 a ps.length cap (pcells ps)) := HX.and_right_comm _ _ _
  rw [eq1]
  have hnF : ∀ k, (HX.cl a2 (bcells p.bs)).F k → w.heap.size ≤ k ∧ ¬ (netHX a cap ps).F k := fun k hk => by
    obtain ⟨q, rfl⟩ := hk
    exact hnew fun e => q (by rw [e]; rfl)
  have go : ∀ (a' : Option Addr) (cap' : Nat), cap' ≠ 0 → (∀ k, abk a' = some k → ¬ ((HX.dats ps).and (HX.cl a2 (bcells p.bs))).F k) → ((cap ≠ 0 ∧ abk a' = abk a) ∨ ∃ g, abk a' = some g ∧ w.heap.size ≤ g ∧ ¬ (((HX.dats ps).and (HX.cl a2 (bcells p.bs))).and (HX.rw 3 30 a ps.length cap (pcells ps))).F g) →
      ∀ {ρ : Env} {L : Stack} {v : SV} {cs : List LV} {r : List (Nat × List LV)} {n : Cnt}, (∀ ids, v.den ρ ids = .int .i64 0) → (∀ ids, cellsDen ρ ids cs = [.slice a' (ps.length + 1) cap']) →
      (Tree.done v ⟨(49, cs) :: r, n⟩).holds ⟨Try.prog, w, fun x => x = nb ∨ (cap ≠ 0 ∧ abk a = some x), NetR w nb a cap ps (ps.map Pk.d ++ [p]) (.int .i64 0)⟩ ρ [nb] (((HX.dats ps).and (HX.cl a2 (bcells p.bs))).and (HX.rw 3 30 a' (ps.length + 1) cap' (pcells ps ++ [.int .i64 p.f, .int .i64 p.t, .slice a2 p.bs.length c2]))) L := by
    intro a' cap' hc0 hd hfr ρ L v cs r n hv hcs
    have epc : pcells (ps ++ [(⟨p.f, p.t, a2, c2, p.bs⟩ : Pk)]) = pcells ps ++ [.int .i64 p.f, .int .i64 p.t, .slice a2 p.bs.length c2] := by simp [pcells, Pk.cells]
    have el : (ps ++ [(⟨p.f, p.t, a2, c2, p.bs⟩ : Pk)]).length = ps.length + 1 := by simp
    have hdF : ∀ k, (HX.dats (ps ++ [(⟨p.f, p.t, a2, c2, p.bs⟩ : Pk)])).F k → ((HX.dats ps).and (HX.cl a2 (bcells p.bs))).F k := fun k hk => by
      obtain ⟨q, hq, h5, rfl⟩ := hk
      rcases List.mem_append.1 hq with hq | hq
      · exact .inl ⟨q, hq, h5, rfl⟩
      · simp only [List.mem_singleton] at hq; subst hq
        exact .inr ⟨fun e => h5 (bcells_nil.1 e), rfl⟩
    refine net_done a' cap' (ps ++ [(⟨p.f, p.t, a2, c2, p.bs⟩ : Pk)]) hv (by rw [el]; exact hcs) (by simp [Pk.d]) (fun k _ hk hF => hd k hk (hdF k hF)) (fun k _ hk => ?_) (fun k hk => ?_) (fun w' h => ⟨fun q hq => ?_, ?_⟩) (fun k hk => ?_)
    · rcases hfr with ⟨q1, q2⟩ | ⟨g, q1, q2, _⟩
      · exact .inl ⟨q1, by rw [← q2]; exact hk⟩
      · rw [q1] at hk; cases hk; exact .inr q2
    · rcases hk with hk | hk
      · exact .inl (hdF k hk)
      · exact .inr hk
    · rcases List.mem_append.1 hq with hq | hq
      · exact h.1.1 q hq
      · simp only [List.mem_singleton] at hq; subst hq; exact h.1.2
    · rw [epc, el]; exact h.2
    · rcases hk with hk | hk
      · rcases hdF k hk with hk | hk
        · exact .inl (.inl hk)
        · exact .inr (hnF k hk).1
      · rcases hfr with ⟨q1, q2⟩ | ⟨g, q1, q2, _⟩
        · exact .inl (.inr ⟨q1, by rw [← q2]; exact hk.2⟩)
        · have := hk.2
          rw [q1] at this; cases this; exact .inr q2
  have hdis : ∀ k, cap ≠ 0 → abk a = some k → ¬ ((HX.dats ps).and (HX.cl a2 (bcells p.bs))).F k := fun k h5 h6 hF => by
    rcases hF with hF | hF
    · exact H.apart k h5 h6 hF
    · exact (hnF k hF).2 (.inr ⟨h5, h6⟩)
  refine par_i ?_ ?_
  · refine node_pushs (sz := 3) (vs := [.int .i64 p.f, .int .i64 p.t, .slice a2 p.bs.length c2]) rfl Try.underlying38 info_pk rfl (by decide) a ps.length cap (pcells ps) 2 (fun _ => rfl) (fun _ => rfl) rfl (fun _ => rfl) rfl (by simp [Value.oneCell']) hdis (fun k h5 h6 => Or.inr (Or.inr ⟨h5, h6⟩)) (by unfold maxLen; omega) (by omega) (fun _ _ _ => rfl) rfl rfl (fun _ _ => rfl) ?_
    intro a' cap' hc0 hd hfr
    exact go a' cap' hc0 hd hfr (fun _ => rfl) (fun _ => rfl)
  · refine node_pushs (sz := 3) (vs := [.int .i64 p.f, .int .i64 p.t, .slice a2 p.bs.length c2]) rfl Try.underlying38 info_pk rfl (by decide) a ps.length cap (pcells ps) 2 (fun _ => rfl) (fun _ => rfl) rfl (fun _ => rfl) rfl (by simp [Value.oneCell']) hdis (fun k h5 h6 => Or.inr (Or.inr ⟨h5, h6⟩)) (by unfold maxLen; omega) (by omega) (fun _ _ _ => rfl) rfl rfl (fun _ _ => rfl) ?_
    intro a' cap' hc0 hd hfr
    exact go a' cap' hc0 hd hfr (fun _ => rfl) (fun _ => rfl)
theorem len_any (nb : Nat) (a : Option Addr) (cap n : Nat) (w : World) (H : Blk w nb [.slice a n cap] 49) : Calls Try.prog 11 #[.pointer (some ⟨nb, 0, none⟩)] w (PureAt w (.int .i64 (n : Int))) := by
  refine calls_at (tab_ok _) Try.func11 rfl tNLen (ρ := ⟨[], [], [], [n, cap], [a]⟩) (ids := [nb]) (hx := HX.nil) (M := fun x => x = nb) rfl (Facts.init1 rfl oneNil H rfl) ?_
  intro ids w2 hp hf
  refine ⟨rfl, (Chg.same hf.chg ?_).below⟩
  have := hf.blkAt 0 rfl
  rw [idAt0 hp] at this
  exact this.trans H.symm
theorem has_any (nb : Nat) (a : Option Addr) (cap n : Nat) (i : Int) (w : World) (H : Blk w nb [.slice a n cap] 49) : Calls Try.prog 21 #[.pointer (some ⟨nb, 0, none⟩), .int .i64 i] w (PureAt w (.bool (decide (0 ≤ i ∧ i < (n : Int))))) := by
  refine calls_at (tab_ok _) Try.func21 rfl tNHas (ρ := ⟨[i], [], [], [n, cap], [a]⟩) (ids := [nb]) (hx := HX.nil) (M := fun x => x = nb) rfl (Facts.init1 rfl oneNil H rfl) ?_
  refine br_i (fun g => ?_) (fun g => ?_)
  · intro ids w2 hp hf
    have h0 := hf.blkAt 0 rfl
    rw [idAt0 hp] at h0
    refine ⟨?_, (Chg.same hf.chg (h0.trans H.symm)).below⟩
    have g2 : 0 ≤ i := by simpa [SV.den, LV.den, IE.den, BE.den, NE.den, AE.den, compDen, cellsDen, ifn, cfn, Env.add, List.map_cons, List.map_nil, List.getD_cons_zero, List.getD_cons_succ, List.cons_append, List.nil_append, List.append_nil, cfn] using g
    show Ending.returned (.bool (decide (i < (n : Int)))) = _
    simp [g2]
  · intro ids w2 hp hf
    have h0 := hf.blkAt 0 rfl
    rw [idAt0 hp] at h0
    refine ⟨?_, (Chg.same hf.chg (h0.trans H.symm)).below⟩
    have g2 : ¬ 0 ≤ i := by simpa [SV.den, LV.den, IE.den, BE.den, NE.den, AE.den, compDen, cellsDen, ifn, cfn, Env.add, List.map_cons, List.map_nil, List.getD_cons_zero, List.getD_cons_succ, List.cons_append, List.nil_append, List.append_nil, cfn] using g
    show Ending.returned (.bool false) = _
    simp [g2]
end Go.Proofs.Yteeecfdcebcbbaa
