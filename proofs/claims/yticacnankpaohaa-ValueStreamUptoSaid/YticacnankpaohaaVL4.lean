/- ValueBack. -/
import Derived.Test.YticacnankpaohaaVL3
namespace Go.Proofs.Yticacnankpaohaa
open Go.ChangeShapes Go.WideShapes Go.ChangeAt Go.RowKit Go.Syn Go.Eng
set_option linter.unusedVariables false
set_option linter.unusedSimpArgs false
set_option maxRecDepth 100000
set_option maxRecDepth 100000 in
theorem tLBack : (runF ⟨tt, fns, { }⟩ (Try.f6.body.getD .skip) Try.f6.results.toList (entry Try.f6.ntmps [.agg [.int .i64 (.var 0), .sl 0 (.var 0) (.var 1), .sl 1 (.var 2) (.var 3)], .lf (.sl 2 (.var 4) (.var 5))] [] ⟨1, 0, 0, 6, 3⟩)) =
  (.call 9 [] ⟨[(25, [(.int .i64 (.var 0)), (.sl 0 (.var 0) (.var 1)), (.sl 1 (.var 2) (.var 3))])], ⟨1, 0, 0, 6, 3⟩⟩ (.lf (.bool (.var 0))) ⟨[(25, [(.int .i64 (.var 0)), (.sl 0 (.var 0) (.var 1)), (.sl 1 (.var 2) (.var 3))])], ⟨1, 1, 0, 6, 3⟩⟩ (.br (.not (.var 0)) (.done (.lf (.bool (.lit .false))) ⟨[(25, [(.int .i64 (.var 0)), (.sl 0 (.var 0) (.var 1)), (.sl 1 (.var 2) (.var 3))])], ⟨1, 1, 0, 6, 3⟩⟩) (.call 11 [(.agg [(.int .i64 (.var 0)), (.sl 0 (.var 0) (.var 1)), (.sl 1 (.var 2) (.var 3))])] ⟨[(25, [(.int .i64 (.var 0)), (.sl 0 (.var 0) (.var 1)), (.sl 1 (.var 2) (.var 3))])], ⟨1, 1, 0, 6, 3⟩⟩ (.agg [(.int .i64 (.var 1)), (.sl 3 (.var 6) (.var 7)), (.sl 4 (.var 8) (.var 9))]) ⟨[(25, [(.int .i64 (.var 0)), (.sl 0 (.var 0) (.var 1)), (.sl 1 (.var 2) (.var 3))])], ⟨2, 1, 0, 10, 5⟩⟩ (.call 15 [(.agg [(.int .i64 (.var 1)), (.sl 3 (.var 6) (.var 7)), (.sl 4 (.var 8) (.var 9))])] ⟨[(25, [(.int .i64 (.var 0)), (.sl 0 (.var 0) (.var 1)), (.sl 1 (.var 2) (.var 3))])], ⟨2, 1, 0, 10, 5⟩⟩ (.tup [(.false, [(.sl 5 (.var 10) (.var 11))]), (.false, [(.int .i64 (.var 2))])]) ⟨[(25, [(.int .i64 (.var 0)), (.sl 0 (.var 0) (.var 1)), (.sl 1 (.var 2) (.var 3))])], ⟨3, 1, 0, 12, 6⟩⟩ (.call 11 [(.agg [(.int .i64 (.var 0)), (.sl 0 (.var 0) (.var 1)), (.sl 1 (.var 2) (.var 3))])] ⟨[(25, [(.int .i64 (.var 0)), (.sl 0 (.var 0) (.var 1)), (.sl 1 (.var 2) (.var 3))])], ⟨3, 1, 0, 12, 6⟩⟩ (.agg [(.int .i64 (.var 3)), (.sl 6 (.var 12) (.var 13)), (.sl 7 (.var 14) (.var 15))]) ⟨[(25, [(.int .i64 (.var 0)), (.sl 0 (.var 0) (.var 1)), (.sl 1 (.var 2) (.var 3))])], ⟨4, 1, 0, 16, 8⟩⟩ (.call 10 [(.agg [(.int .i64 (.var 3)), (.sl 6 (.var 12) (.var 13)), (.sl 7 (.var 14) (.var 15))])] ⟨[(25, [(.int .i64 (.var 0)), (.sl 0 (.var 0) (.var 1)), (.sl 1 (.var 2) (.var 3))])], ⟨4, 1, 0, 16, 8⟩⟩ (.lf (.int .i64 (.var 4))) ⟨[(25, [(.int .i64 (.var 0)), (.sl 0 (.var 0) (.var 1)), (.sl 1 (.var 2) (.var 3))])], ⟨5, 1, 0, 16, 8⟩⟩ (.br (.cmp .neq (.var 2) (.var 4)) (.done (.lf (.bool (.lit .false))) ⟨[(25, [(.int .i64 (.var 0)), (.sl 0 (.var 0) (.var 1)), (.sl 1 (.var 2) (.var 3))])], ⟨5, 1, 0, 16, 8⟩⟩) (.br (.cmp .eql (.var 2) (.lit 0)) (.call 20 [(.lf (.sl 5 (.var 10) (.var 11)))] ⟨[(25, [(.int .i64 (.var 0)), (.sl 0 (.var 0) (.var 1)), (.sl 1 (.var 2) (.var 3))])], ⟨5, 1, 0, 16, 8⟩⟩ (.tup [(.true, [(.int .i64 (.var 5)), (.sl 8 (.var 16) (.var 17)), (.sl 9 (.var 18) (.var 19))]), (.false, [(.int .i64 (.var 6))])]) ⟨[(25, [(.int .i64 (.var 0)), (.sl 0 (.var 0) (.var 1)), (.sl 1 (.var 2) (.var 3))])], ⟨7, 1, 0, 20, 10⟩⟩ (.br (.cmp .neq (.var 6) (.lit 0)) (.done (.lf (.bool (.lit .false))) ⟨[(25, [(.int .i64 (.var 0)), (.sl 0 (.var 0) (.var 1)), (.sl 1 (.var 2) (.var 3))]), (25, [(.int .i64 (.var 5)), (.sl 8 (.var 16) (.var 17)), (.sl 9 (.var 18) (.var 19))])], ⟨7, 1, 0, 20, 10⟩⟩) (.call 11 [(.agg [(.int .i64 (.var 0)), (.sl 0 (.var 0) (.var 1)), (.sl 1 (.var 2) (.var 3))])] ⟨[(25, [(.int .i64 (.var 0)), (.sl 0 (.var 0) (.var 1)), (.sl 1 (.var 2) (.var 3))]), (25, [(.int .i64 (.var 5)), (.sl 8 (.var 16) (.var 17)), (.sl 9 (.var 18) (.var 19))])], ⟨7, 1, 0, 20, 10⟩⟩ (.agg [(.int .i64 (.var 7)), (.sl 10 (.var 20) (.var 21)), (.sl 11 (.var 22) (.var 23))]) ⟨[(25, [(.int .i64 (.var 0)), (.sl 0 (.var 0) (.var 1)), (.sl 1 (.var 2) (.var 3))]), (25, [(.int .i64 (.var 5)), (.sl 8 (.var 16) (.var 17)), (.sl 9 (.var 18) (.var 19))])], ⟨8, 1, 0, 24, 12⟩⟩ (.call 31 [(.agg [(.int .i64 (.var 5)), (.sl 8 (.var 16) (.var 17)), (.sl 9 (.var 18) (.var 19))]), (.agg [(.int .i64 (.var 7)), (.sl 10 (.var 20) (.var 21)), (.sl 11 (.var 22) (.var 23))])] ⟨[(25, [(.int .i64 (.var 0)), (.sl 0 (.var 0) (.var 1)), (.sl 1 (.var 2) (.var 3))]), (25, [(.int .i64 (.var 5)), (.sl 8 (.var 16) (.var 17)), (.sl 9 (.var 18) (.var 19))])], ⟨8, 1, 0, 24, 12⟩⟩ (.lf (.bool (.var 1))) ⟨[(25, [(.int .i64 (.var 0)), (.sl 0 (.var 0) (.var 1)), (.sl 1 (.var 2) (.var 3))]), (25, [(.int .i64 (.var 5)), (.sl 8 (.var 16) (.var 17)), (.sl 9 (.var 18) (.var 19))])], ⟨8, 2, 0, 24, 12⟩⟩ (.br (.not (.var 1)) (.done (.lf (.bool (.lit .false))) ⟨[(25, [(.int .i64 (.var 0)), (.sl 0 (.var 0) (.var 1)), (.sl 1 (.var 2) (.var 3))]), (25, [(.int .i64 (.var 5)), (.sl 8 (.var 16) (.var 17)), (.sl 9 (.var 18) (.var 19))])], ⟨8, 2, 0, 24, 12⟩⟩) (.call 18 [(.lf (.sl 2 (.var 4) (.var 5)))] ⟨[(25, [(.int .i64 (.var 0)), (.sl 0 (.var 0) (.var 1)), (.sl 1 (.var 2) (.var 3))]), (25, [(.int .i64 (.var 5)), (.sl 8 (.var 16) (.var 17)), (.sl 9 (.var 18) (.var 19))])], ⟨8, 2, 0, 24, 12⟩⟩ (.lf (.sl 12 (.var 24) (.var 25))) ⟨[(25, [(.int .i64 (.var 0)), (.sl 0 (.var 0) (.var 1)), (.sl 1 (.var 2) (.var 3))]), (25, [(.int .i64 (.var 5)), (.sl 8 (.var 16) (.var 17)), (.sl 9 (.var 18) (.var 19))])], ⟨8, 2, 0, 26, 13⟩⟩ (.call 20 [(.lf (.sl 12 (.var 24) (.var 25)))] ⟨[(25, [(.int .i64 (.var 0)), (.sl 0 (.var 0) (.var 1)), (.sl 1 (.var 2) (.var 3))]), (25, [(.int .i64 (.var 5)), (.sl 8 (.var 16) (.var 17)), (.sl 9 (.var 18) (.var 19))])], ⟨8, 2, 0, 26, 13⟩⟩ (.tup [(.true, [(.int .i64 (.var 8)), (.sl 13 (.var 26) (.var 27)), (.sl 14 (.var 28) (.var 29))]), (.false, [(.int .i64 (.var 9))])]) ⟨[(25, [(.int .i64 (.var 0)), (.sl 0 (.var 0) (.var 1)), (.sl 1 (.var 2) (.var 3))]), (25, [(.int .i64 (.var 5)), (.sl 8 (.var 16) (.var 17)), (.sl 9 (.var 18) (.var 19))])], ⟨10, 2, 0, 30, 15⟩⟩ (.br (.cmp .neq (.var 9) (.lit 0)) (.call 21 [(.agg [(.int .i64 (.var 8)), (.sl 13 (.var 26) (.var 27)), (.sl 14 (.var 28) (.var 29))]), (.agg [(.int .i64 (.lit 0)), .nilsl, .nilsl])] ⟨[(25, [(.int .i64 (.var 0)), (.sl 0 (.var 0) (.var 1)), (.sl 1 (.var 2) (.var 3))]), (25, [(.int .i64 (.var 5)), (.sl 8 (.var 16) (.var 17)), (.sl 9 (.var 18) (.var 19))]), (25, [(.int .i64 (.var 8)), (.sl 13 (.var 26) (.var 27)), (.sl 14 (.var 28) (.var 29))])], ⟨10, 2, 0, 30, 15⟩⟩ (.lf (.bool (.var 2))) ⟨[(25, [(.int .i64 (.var 0)), (.sl 0 (.var 0) (.var 1)), (.sl 1 (.var 2) (.var 3))]), (25, [(.int .i64 (.var 5)), (.sl 8 (.var 16) (.var 17)), (.sl 9 (.var 18) (.var 19))]), (25, [(.int .i64 (.var 8)), (.sl 13 (.var 26) (.var 27)), (.sl 14 (.var 28) (.var 29))])], ⟨10, 3, 0, 30, 15⟩⟩ (.done (.lf (.bool (.var 2))) ⟨[(25, [(.int .i64 (.var 0)), (.sl 0 (.var 0) (.var 1)), (.sl 1 (.var 2) (.var 3))]), (25, [(.int .i64 (.var 5)), (.sl 8 (.var 16) (.var 17)), (.sl 9 (.var 18) (.var 19))]), (25, [(.int .i64 (.var 8)), (.sl 13 (.var 26) (.var 27)), (.sl 14 (.var 28) (.var 29))])], ⟨10, 3, 0, 30, 15⟩⟩)) (.call 15 [(.agg [(.int .i64 (.var 8)), (.sl 13 (.var 26) (.var 27)), (.sl 14 (.var 28) (.var 29))])] ⟨[(25, [(.int .i64 (.var 0)), (.sl 0 (.var 0) (.var 1)), (.sl 1 (.var 2) (.var 3))]), (25, [(.int .i64 (.var 5)), (.sl 8 (.var 16) (.var 17)), (.sl 9 (.var 18) (.var 19))]), (25, [(.int .i64 (.var 8)), (.sl 13 (.var 26) (.var 27)), (.sl 14 (.var 28) (.var 29))])], ⟨10, 2, 0, 30, 15⟩⟩ (.tup [(.false, [(.sl 15 (.var 30) (.var 31))]), (.false, [(.int .i64 (.var 10))])]) ⟨[(25, [(.int .i64 (.var 0)), (.sl 0 (.var 0) (.var 1)), (.sl 1 (.var 2) (.var 3))]), (25, [(.int .i64 (.var 5)), (.sl 8 (.var 16) (.var 17)), (.sl 9 (.var 18) (.var 19))]), (25, [(.int .i64 (.var 8)), (.sl 13 (.var 26) (.var 27)), (.sl 14 (.var 28) (.var 29))])], ⟨11, 2, 0, 32, 16⟩⟩ (.br (.cmp .eql (.var 10) (.lit 0)) (.call 16 [(.lf (.sl 15 (.var 30) (.var 31))), (.lf (.sl 2 (.var 4) (.var 5)))] ⟨[(25, [(.int .i64 (.var 0)), (.sl 0 (.var 0) (.var 1)), (.sl 1 (.var 2) (.var 3))]), (25, [(.int .i64 (.var 5)), (.sl 8 (.var 16) (.var 17)), (.sl 9 (.var 18) (.var 19))]), (25, [(.int .i64 (.var 8)), (.sl 13 (.var 26) (.var 27)), (.sl 14 (.var 28) (.var 29))])], ⟨11, 2, 0, 32, 16⟩⟩ (.lf (.bool (.var 2))) ⟨[(25, [(.int .i64 (.var 0)), (.sl 0 (.var 0) (.var 1)), (.sl 1 (.var 2) (.var 3))]), (25, [(.int .i64 (.var 5)), (.sl 8 (.var 16) (.var 17)), (.sl 9 (.var 18) (.var 19))]), (25, [(.int .i64 (.var 8)), (.sl 13 (.var 26) (.var 27)), (.sl 14 (.var 28) (.var 29))])], ⟨11, 3, 0, 32, 16⟩⟩ (.done (.lf (.bool (.var 2))) ⟨[(25, [(.int .i64 (.var 0)), (.sl 0 (.var 0) (.var 1)), (.sl 1 (.var 2) (.var 3))]), (25, [(.int .i64 (.var 5)), (.sl 8 (.var 16) (.var 17)), (.sl 9 (.var 18) (.var 19))]), (25, [(.int .i64 (.var 8)), (.sl 13 (.var 26) (.var 27)), (.sl 14 (.var 28) (.var 29))])], ⟨11, 3, 0, 32, 16⟩⟩)) (.done (.lf (.bool (.lit .false))) ⟨[(25, [(.int .i64 (.var 0)), (.sl 0 (.var 0) (.var 1)), (.sl 1 (.var 2) (.var 3))]), (25, [(.int .i64 (.var 5)), (.sl 8 (.var 16) (.var 17)), (.sl 9 (.var 18) (.var 19))]), (25, [(.int .i64 (.var 8)), (.sl 13 (.var 26) (.var 27)), (.sl 14 (.var 28) (.var 29))])], ⟨11, 2, 0, 32, 16⟩⟩))))))))))) (.call 18 [(.lf (.sl 2 (.var 4) (.var 5)))] ⟨[(25, [(.int .i64 (.var 0)), (.sl 0 (.var 0) (.var 1)), (.sl 1 (.var 2) (.var 3))])], ⟨5, 1, 0, 16, 8⟩⟩ (.lf (.sl 8 (.var 16) (.var 17))) ⟨[(25, [(.int .i64 (.var 0)), (.sl 0 (.var 0) (.var 1)), (.sl 1 (.var 2) (.var 3))])], ⟨5, 1, 0, 18, 9⟩⟩ (.call 20 [(.lf (.sl 8 (.var 16) (.var 17)))] ⟨[(25, [(.int .i64 (.var 0)), (.sl 0 (.var 0) (.var 1)), (.sl 1 (.var 2) (.var 3))])], ⟨5, 1, 0, 18, 9⟩⟩ (.tup [(.true, [(.int .i64 (.var 5)), (.sl 9 (.var 18) (.var 19)), (.sl 10 (.var 20) (.var 21))]), (.false, [(.int .i64 (.var 6))])]) ⟨[(25, [(.int .i64 (.var 0)), (.sl 0 (.var 0) (.var 1)), (.sl 1 (.var 2) (.var 3))])], ⟨7, 1, 0, 22, 11⟩⟩ (.br (.cmp .neq (.var 6) (.lit 0)) (.call 21 [(.agg [(.int .i64 (.var 5)), (.sl 9 (.var 18) (.var 19)), (.sl 10 (.var 20) (.var 21))]), (.agg [(.int .i64 (.lit 0)), .nilsl, .nilsl])] ⟨[(25, [(.int .i64 (.var 0)), (.sl 0 (.var 0) (.var 1)), (.sl 1 (.var 2) (.var 3))]), (25, [(.int .i64 (.var 5)), (.sl 9 (.var 18) (.var 19)), (.sl 10 (.var 20) (.var 21))])], ⟨7, 1, 0, 22, 11⟩⟩ (.lf (.bool (.var 1))) ⟨[(25, [(.int .i64 (.var 0)), (.sl 0 (.var 0) (.var 1)), (.sl 1 (.var 2) (.var 3))]), (25, [(.int .i64 (.var 5)), (.sl 9 (.var 18) (.var 19)), (.sl 10 (.var 20) (.var 21))])], ⟨7, 2, 0, 22, 11⟩⟩ (.done (.lf (.bool (.var 1))) ⟨[(25, [(.int .i64 (.var 0)), (.sl 0 (.var 0) (.var 1)), (.sl 1 (.var 2) (.var 3))]), (25, [(.int .i64 (.var 5)), (.sl 9 (.var 18) (.var 19)), (.sl 10 (.var 20) (.var 21))])], ⟨7, 2, 0, 22, 11⟩⟩)) (.call 15 [(.agg [(.int .i64 (.var 5)), (.sl 9 (.var 18) (.var 19)), (.sl 10 (.var 20) (.var 21))])] ⟨[(25, [(.int .i64 (.var 0)), (.sl 0 (.var 0) (.var 1)), (.sl 1 (.var 2) (.var 3))]), (25, [(.int .i64 (.var 5)), (.sl 9 (.var 18) (.var 19)), (.sl 10 (.var 20) (.var 21))])], ⟨7, 1, 0, 22, 11⟩⟩ (.tup [(.false, [(.sl 11 (.var 22) (.var 23))]), (.false, [(.int .i64 (.var 7))])]) ⟨[(25, [(.int .i64 (.var 0)), (.sl 0 (.var 0) (.var 1)), (.sl 1 (.var 2) (.var 3))]), (25, [(.int .i64 (.var 5)), (.sl 9 (.var 18) (.var 19)), (.sl 10 (.var 20) (.var 21))])], ⟨8, 1, 0, 24, 12⟩⟩ (.br (.cmp .eql (.var 7) (.lit 0)) (.call 16 [(.lf (.sl 11 (.var 22) (.var 23))), (.lf (.sl 2 (.var 4) (.var 5)))] ⟨[(25, [(.int .i64 (.var 0)), (.sl 0 (.var 0) (.var 1)), (.sl 1 (.var 2) (.var 3))]), (25, [(.int .i64 (.var 5)), (.sl 9 (.var 18) (.var 19)), (.sl 10 (.var 20) (.var 21))])], ⟨8, 1, 0, 24, 12⟩⟩ (.lf (.bool (.var 1))) ⟨[(25, [(.int .i64 (.var 0)), (.sl 0 (.var 0) (.var 1)), (.sl 1 (.var 2) (.var 3))]), (25, [(.int .i64 (.var 5)), (.sl 9 (.var 18) (.var 19)), (.sl 10 (.var 20) (.var 21))])], ⟨8, 2, 0, 24, 12⟩⟩ (.done (.lf (.bool (.var 1))) ⟨[(25, [(.int .i64 (.var 0)), (.sl 0 (.var 0) (.var 1)), (.sl 1 (.var 2) (.var 3))]), (25, [(.int .i64 (.var 5)), (.sl 9 (.var 18) (.var 19)), (.sl 10 (.var 20) (.var 21))])], ⟨8, 2, 0, 24, 12⟩⟩)) (.done (.lf (.bool (.lit .false))) ⟨[(25, [(.int .i64 (.var 0)), (.sl 0 (.var 0) (.var 1)), (.sl 1 (.var 2) (.var 3))]), (25, [(.int .i64 (.var 5)), (.sl 9 (.var 18) (.var 19)), (.sl 10 (.var 20) (.var 21))])], ⟨8, 1, 0, 24, 12⟩⟩)))))))))))))) := by kernel_rfl
section
variable {C : Cfg} {ρ : Env} {pre : List Nat} {hx : HX} {L : Stack} {m m' : Mem} {args : List SV} {r : SV} {t : Tree}
/-- A call whose answer is new bytes. -/
theorem node_nd {f : Nat} {bs : List Int} (AS : List Nat → Array Value) (vs : Option Addr → Nat → Vals) (hargs : ∀ ids, (args.map (SV.den ρ ids)).toArray = AS ids) (hcall : ∀ ids w, pre <+: ids → Facts C m ρ ids hx w → Calls C.P f (AS ids) w (NewD w id bs))
    (hr : ∀ a' c' ids, r.den (ρ.add (vs a' c')) ids = .slice a' bs.length c') (hhp : m'.hp = m.hp) (hfit : hpFits m.c m.hp.length m.hp = true) (hc : ∀ a' c', (ρ.add (vs a' c')).cnt = m'.c) (h1 : ∀ a' c' v, v ∈ (vs a' c').v → v.oneCell' = true)
    (h : ∀ a' c', (∀ k, (HX.cl a' (bcells bs)).F k → C.W.heap.size ≤ k ∧ ¬ hx.F k) → t.holds C (ρ.add (vs a' c')) pre (hx.and (HX.cl a' (bcells bs))) L) : (Tree.call f args m r m' t).holds C ρ pre hx L := by
  refine node_out AS (fun u hy => ∃ a' c', u = vs a' c' ∧ hy = HX.cl a' (bcells bs)) hargs (fun ids w hp hf => ?_) hhp hfit ?_ ?_
  · refine (hcall ids w hp hf).mono ?_
    rintro e w' ⟨a', c', rfl, hX, hge, _, hb⟩
    exact ⟨_, _, ⟨a', c', rfl, rfl⟩, by rw [hr]; rfl, hX, fun k hk => ⟨by obtain ⟨hne, rfl⟩ := hk; exact hge (fun q => hne (by rw [q]; rfl)), cl_sep hX k hk⟩, hb⟩
  · rintro u hy ⟨a', c', rfl, rfl⟩
    exact ⟨hc _ _, h1 _ _⟩
  · rintro u hy ⟨a', c', rfl, rfl⟩ hfr
    exact h a' c' hfr
end
theorem numB_byt {u : Nat} (h : u < 2 ^ 64) : Byt (numB u) := fun b hb => by
  have := nlen_8 h
  rcases List.mem_cons.1 hb with rfl | hb
  · omega
  · exact digs_byt _ _ b hb
theorem byt_app {a b : List Int} (h : Byt a) (h2 : Byt b) : Byt (a ++ b) := fun x hx => (List.mem_append.1 hx).elim (h x) (h2 x)
theorem byt_flat {α : Type} {f : α → List Int} {xs : List α} (h : ∀ x ∈ xs, Byt (f x)) : Byt (xs.flatMap f) := fun b hb => by
  obtain ⟨x, hx, hb⟩ := List.mem_flatMap.1 hb
  exact h x hx b hb
theorem vlB_byt {v : Vl} (h : VlWf v) : Byt (vlB v) := by
  have l1 := h.f.l1
  have l2 := h.f.l2
  unfold vlB
  exact byt_app (numB_byt (natU_lt _)) (byt_app (numB_byt (by omega)) (byt_app (byt_flat fun c hc => byt_flat fun i hi => numB_byt (foldN_lt (h.c c hc i hi))) (byt_app (numB_byt (by omega)) (byt_flat fun n _ => numB_byt (natU_lt _)))))
set_option maxHeartbeats 4000000 in
theorem back_walk (v : Vl) (a1 : Option Addr) (c1 : Nat) (a2 : Option Addr) (c2 : Nat) (a : Option Addr) (cap : Nat) (bs : List Int) (w : World) (H : VlAt w v a1 a2) (hv : VlWf v) (HB : Cells w a (bcells bs)) (hb : Byt bs) (hl : bs.length ≤ 140737488355328) :
    Calls Try.prog 6 #[vlV v a1 c1 a2 c2, .slice a bs.length cap] w (PureAt w (.bool true)) := by
  have lv := encB_len hv
  refine calls_at (tab_ok _) Try.func6 rfl tLBack (ρ := ⟨[v.k], [], [], [v.cs.length, c1, v.ns.length, c2, bs.length, cap], [a1, a2, a]⟩) (ids := []) (hx := (vlX v a1 a2).and (HX.cl a (bcells bs))) rfl (Facts.initq rfl oneNil ⟨H.X, HB⟩ (fun k hk => hk.elim (vlX_sep H.X k) (cl_sep HB k))) ?_
  obtain ⟨dv, edv⟩ : ∃ x, x = decV bs := ⟨_, rfl⟩
  obtain ⟨de, ede⟩ : ∃ x, x = decE bs := ⟨_, rfl⟩
  have hdv : VlWf dv := by rw [edv]; exact dec_wf hb
  refine node_pure ⟨[], [true], [], [], []⟩ rfl rfl rfl oneNil (fun ids w2 hp hf => head_any w2) ?_
  refine br_f rfl ?_
  refine node_vl (V := id) (v := v) (fun _ => #[vlV v a1 c1 a2 c2]) (fun a1 c1 a2 c2 => ⟨[v.k], [], [], [v.cs.length, c1, v.ns.length, c2], [a1, a2]⟩) (by intros; kernel_rfl) (fun ids w2 hp hf => cpvl_any v a1 c1 a2 c2 w2 (hv.f.at_ hf.x.1)) (by intros; kernel_rfl) (by intros; kernel_rfl) (by intros; kernel_rfl) (by intros; kernel_rfl) (fun _ _ _ _ => oneNil) ?_
  intro x1 y1 x2 y2 _
  refine node_newi (V := fun s => .tuple #[s, .int .i64 (valE v)]) (bs := encB v) (fun ids => #[vlV v x1 y1 x2 y2]) (fun a' c' => ⟨[valE v], [], [], [(encB v).length, c'], [a']⟩) (by intros; kernel_rfl) (fun ids w2 hp hf => encode_any v x1 y1 x2 y2 hv.k hv.c w2 (hv.f.at_ hf.x.2)) (by intros; kernel_rfl) (by intros; kernel_rfl) (by intros; kernel_rfl) (by intros; kernel_rfl) (fun _ _ => oneNil) ?_
  intro e1 f1 _ _
  refine node_vl (V := id) (v := v) (fun _ => #[vlV v a1 c1 a2 c2]) (fun a1 c1 a2 c2 => ⟨[v.k], [], [], [v.cs.length, c1, v.ns.length, c2], [a1, a2]⟩) (by intros; kernel_rfl) (fun ids w2 hp hf => cpvl_any v a1 c1 a2 c2 w2 (hv.f.at_ hf.x.1.1.1)) (by intros; kernel_rfl) (by intros; kernel_rfl) (by intros; kernel_rfl) (by intros; kernel_rfl) (fun _ _ _ _ => oneNil) ?_
  intro z1 t1 z2 t2 _
  refine node_pure ⟨[valE v], [], [], [], []⟩ (by intros; kernel_rfl) (by intros; kernel_rfl) (by intros; kernel_rfl) oneNil (fun ids w2 hp hf => vchk_any v z1 t1 z2 t2 w2 (hv.f.at_ hf.x.2)) ?_
  refine br_f (show (valE v != valE v) = false by simp) ?_
  by_cases h0 : valE v = 0
  · refine br_t (show (valE v == 0) = true by simpa using h0) ?_
    have ev : encB v = vlB v := if_pos h0
    rw [ev] at lv ⊢
    obtain ⟨dd1, dd2⟩ := dec_vlB hv h0
    refine node_vl (V := fun v => .tuple #[v, .int .i64 0]) (v := v) (fun ids => #[.slice e1 (vlB v).length f1]) (fun a1 c1 a2 c2 => ⟨[v.k, 0], [], [], [v.cs.length, c1, v.ns.length, c2], [a1, a2]⟩) (by intros; kernel_rfl) (fun ids w2 hp hf => ?_) (by intros; kernel_rfl) (by intros; kernel_rfl) (by intros; kernel_rfl) (by intros; kernel_rfl) (fun _ _ _ _ => oneNil) ?_
    · have := decode_any e1 f1 (vlB v) w2 (frow_cells hf.x.1.2) (vlB_byt hv) (by omega)
      rw [dd1, dd2] at this
      exact this
    intro g1 h1 g2 h2 _
    refine br_f (by kernel_rfl) ?_
    refine node_vl (V := id) (v := v) (fun _ => #[vlV v a1 c1 a2 c2]) (fun a1 c1 a2 c2 => ⟨[v.k], [], [], [v.cs.length, c1, v.ns.length, c2], [a1, a2]⟩) (by intros; kernel_rfl) (fun ids w2 hp hf => cpvl_any v a1 c1 a2 c2 w2 (hv.f.at_ hf.x.1.1.1.1.1)) (by intros; kernel_rfl) (by intros; kernel_rfl) (by intros; kernel_rfl) (by intros; kernel_rfl) (fun _ _ _ _ => oneNil) ?_
    intro i1 j1 i2 j2 _
    refine node_pure ⟨[], [true], [], [], []⟩ (by intros; kernel_rfl) (by intros; kernel_rfl) (by intros; kernel_rfl) oneNil (fun ids w2 hp hf => ?_) ?_
    · have := vsame_any v g1 h1 g2 h2 v i1 j1 i2 j2 w2 (hv.f.at_ hf.x.1.2) (hv.f.at_ hf.x.2)
      rw [vlSame_t rfl] at this
      exact this
    refine br_f rfl ?_
    refine node_nd (bs := bs) (fun ids => #[.slice a bs.length cap]) (fun a' c' => ⟨[], [], [], [bs.length, c'], [a']⟩) (by intros; kernel_rfl) (fun ids w2 hp hf => copyb_new a cap bs w2 hf.x.1.1.1.1.1.2 hl) (by intros; kernel_rfl) (by intros; kernel_rfl) (by intros; kernel_rfl) (by intros; kernel_rfl) (fun _ _ => oneNil) ?_
    intro p1 q1 _
    refine node_vl (V := fun v => .tuple #[v, .int .i64 de]) (v := dv) (fun ids => #[.slice p1 bs.length q1]) (fun a1 c1 a2 c2 => ⟨[dv.k, de], [], [], [dv.cs.length, c1, dv.ns.length, c2], [a1, a2]⟩) (by intros; kernel_rfl) (fun ids w2 hp hf => by rw [ede, edv]; exact decode_any p1 q1 bs w2 hf.x.2 hb hl) (by intros; kernel_rfl) (by intros; kernel_rfl) (by intros; kernel_rfl) (by intros; kernel_rfl) (fun _ _ _ _ => oneNil) ?_
    intro k1 l1 k2 l2 _
    by_cases hd : de = 0
    · refine br_f (show (de != 0) = false by simpa using hd) ?_
      obtain ⟨g1, g2⟩ := dec_back hb (ede ▸ hd)
      rw [← edv] at g1 g2
      refine node_newi (V := fun s => .tuple #[s, .int .i64 0]) (bs := bs) (fun ids => #[vlV dv k1 l1 k2 l2]) (fun a' c' => ⟨[0], [], [], [bs.length, c'], [a']⟩) (by intros; kernel_rfl) (fun ids w2 hp hf => ?_) (by intros; kernel_rfl) (by intros; kernel_rfl) (by intros; kernel_rfl) (by intros; kernel_rfl) (fun _ _ => oneNil) ?_
      · have := encode_any dv k1 l1 k2 l2 hdv.k hdv.c w2 (hdv.f.at_ hf.x.2)
        rw [g1, if_pos rfl, g2] at this
        exact this
      intro m1 n1 _ _
      refine br_t (by kernel_rfl) ?_
      refine node_pure ⟨[], [true], [], [], []⟩ (by intros; kernel_rfl) (by intros; kernel_rfl) (by intros; kernel_rfl) oneNil (fun ids w2 hp hf => ?_) (pure_done (by intros; kernel_rfl))
      have := sameb_any m1 n1 bs a cap bs w2 (frow_cells hf.x.2) hf.x.1.1.1.1.1.1.1.1.2 hl
      rw [decide_eq_true rfl] at this
      exact this
    · refine br_t (show (de != 0) = true by simpa using hd) ?_
      have e0 : dv = v0 := by rw [edv]; exact if_neg (fun q => hd (ede.trans q))
      refine node_pure ⟨[], [true], [], [], []⟩ (by intros; kernel_rfl) (by intros; kernel_rfl) (by intros; kernel_rfl) oneNil (fun ids w2 hp hf => ?_) (pure_done (by intros; kernel_rfl))
      have := samev_any dv k1 l1 k2 l2 v0 none 0 none 0 w2 (hdv.f.at_ hf.x.2) ⟨fun h => by simp [v0, ccells] at h, Ints.nil, by decide, by decide⟩
      rw [vlSame_t e0] at this
      exact this
  · refine br_f (show (valE v == 0) = false by simpa using h0) ?_
    refine node_nd (bs := bs) (fun ids => #[.slice a bs.length cap]) (fun a' c' => ⟨[], [], [], [bs.length, c'], [a']⟩) (by intros; kernel_rfl) (fun ids w2 hp hf => copyb_new a cap bs w2 hf.x.1.1.1.2 hl) (by intros; kernel_rfl) (by intros; kernel_rfl) (by intros; kernel_rfl) (by intros; kernel_rfl) (fun _ _ => oneNil) ?_
    intro p1 q1 _
    refine node_vl (V := fun v => .tuple #[v, .int .i64 de]) (v := dv) (fun ids => #[.slice p1 bs.length q1]) (fun a1 c1 a2 c2 => ⟨[dv.k, de], [], [], [dv.cs.length, c1, dv.ns.length, c2], [a1, a2]⟩) (by intros; kernel_rfl) (fun ids w2 hp hf => by rw [ede, edv]; exact decode_any p1 q1 bs w2 hf.x.2 hb hl) (by intros; kernel_rfl) (by intros; kernel_rfl) (by intros; kernel_rfl) (by intros; kernel_rfl) (fun _ _ _ _ => oneNil) ?_
    intro k1 l1 k2 l2 _
    by_cases hd : de = 0
    · refine br_f (show (de != 0) = false by simpa using hd) ?_
      obtain ⟨g1, g2⟩ := dec_back hb (ede ▸ hd)
      rw [← edv] at g1 g2
      refine node_newi (V := fun s => .tuple #[s, .int .i64 0]) (bs := bs) (fun ids => #[vlV dv k1 l1 k2 l2]) (fun a' c' => ⟨[0], [], [], [bs.length, c'], [a']⟩) (by intros; kernel_rfl) (fun ids w2 hp hf => ?_) (by intros; kernel_rfl) (by intros; kernel_rfl) (by intros; kernel_rfl) (by intros; kernel_rfl) (fun _ _ => oneNil) ?_
      · have := encode_any dv k1 l1 k2 l2 hdv.k hdv.c w2 (hdv.f.at_ hf.x.2)
        rw [g1, if_pos rfl, g2] at this
        exact this
      intro m1 n1 _ _
      refine br_t (by kernel_rfl) ?_
      refine node_pure ⟨[], [true], [], [], []⟩ (by intros; kernel_rfl) (by intros; kernel_rfl) (by intros; kernel_rfl) oneNil (fun ids w2 hp hf => ?_) (pure_done (by intros; kernel_rfl))
      have := sameb_any m1 n1 bs a cap bs w2 (frow_cells hf.x.2) hf.x.1.1.1.1.1.1.2 hl
      rw [decide_eq_true rfl] at this
      exact this
    · refine br_t (show (de != 0) = true by simpa using hd) ?_
      have e0 : dv = v0 := by rw [edv]; exact if_neg (fun q => hd (ede.trans q))
      refine node_pure ⟨[], [true], [], [], []⟩ (by intros; kernel_rfl) (by intros; kernel_rfl) (by intros; kernel_rfl) oneNil (fun ids w2 hp hf => ?_) (pure_done (by intros; kernel_rfl))
      have := samev_any dv k1 l1 k2 l2 v0 none 0 none 0 w2 (hdv.f.at_ hf.x.2) ⟨fun h => by simp [v0, ccells] at h, Ints.nil, by decide, by decide⟩
      rw [vlSame_t e0] at this
      exact this
theorem u8_wf {k : Int} (h : (Lit.int .u8 k).wf = true) : 0 ≤ k ∧ k < 256 := by
  simp [Lit.wf] at h
  have h1 := h.1
  have h2 := h.2
  change (0 : Int) ≤ k at h1
  change k ≤ 255 at h2
  omega
theorem opn_bytes {w : World} (ds : List Dat) (hds : ∀ d ∈ ds, d.In Try.prog w 5) : ∃ bs : List Int, bs.length = ds.length ∧ Dat.cellsAll ds = bcells bs ∧ Byt bs := by
  obtain ⟨bs, rfl, ho⟩ := list_map_of (Dat.int .u8) (fun x => 0 ≤ x ∧ x < 256) ds (fun d hd => by
    obtain ⟨k0, rfl, hk⟩ := in_int Try.underlying5 (hds d hd)
    exact ⟨k0, rfl, u8_wf hk⟩)
  refine ⟨bs, by rw [List.length_map], ?_, ho⟩
  clear hds ho
  induction bs with
  | nil => rfl
  | cons x r ih => rw [List.map_cons, bcells, List.map_cons, ← bcells, ← ih]; rfl
theorem bytes_u8 : Try.prog.bytesOf 5 = 1 := by kernel_rfl
theorem back_args (x : Dat) (a : Option Addr) (cap : Nat) (ds : List Dat) (w : World) (hx : x.In Try.prog w 25) (hC : Cells w a (Dat.cellsAll ds)) (hds : ∀ d ∈ ds, d.In Try.prog w 5) (hl : ds.length ≤ 9223372036854775807) (hb : ds.length * Try.prog.bytesOf 5 ≤ reachBytes) : Calls Try.prog 6 #[.agg x.cells.toArray, .slice a ds.length cap] w (PureAt w (.bool true)) := by
  obtain ⟨v, a1, c1, a2, c2, e, H, k1, q1⟩ := opn_vl hx
  obtain ⟨bs, l1, e1, hby⟩ := opn_bytes ds hds
  have hr := reach_is
  rw [bytes_u8] at hb
  rw [vl_arg e, ← l1]
  exact back_walk v a1 c1 a2 c2 a cap bs w H ⟨k1, q1, H.fit⟩ (e1 ▸ hC) hby (by omega)
end Go.Proofs.Yticacnankpaohaa
