/- The walk of the law ElectionRuns. -/
import Derived.Test.YtdjjiamiiglepaaElHead
import Derived.Test.YtdjjiamiiglepaaElNil
import Derived.Test.YtdjjiamiiglepaaElRefNew
import Derived.Test.YtdjjiamiiglepaaDat
namespace Go.Proofs.Ytdjjiamiiglepaa
open Go.ChangeShapes Go.WideShapes Go.ChangeAt Go.RowKit Go.Syn
set_option linter.unusedVariables false
set_option linter.unusedSimpArgs false

theorem tick_near {xs : List Int} {s : Tm} {now : Int} (h : -4611686018427387904 ≤ s.since ∧ s.since ≤ 4611686018427387904) (hn : -4611686018427387904 ≤ now ∧ now ≤ 4611686018427387904) :
    -4611686018427387904 ≤ (tmTick xs s now).1.since ∧ (tmTick xs s now).1.since ≤ 4611686018427387904 := by
  have e : tickSince s now = now ∨ tickSince s now = s.since := by unfold tickSince; split; exact .inl rfl; exact .inr rfl
  unfold tmTick
  generalize tickSince s now = x at *
  by_cases h1 : 1099511627776 ≤ s.round
  · rw [if_pos h1]; exact h
  · rw [if_neg h1]
    by_cases h2 : now - x < s.wait
    · rw [if_pos h2]; dsimp only; rcases e with rfl | rfl <;> assumption
    · rw [if_neg h2]; exact hn
/-- A step of a script. -/
structure OpV where
  k : Int
  m : Int
  n : Int
def OpV.dat (o : OpV) : Dat := .parts [.int .i64 o.k, .int .i64 o.m, .int .i64 o.n]
def OpV.ok (o : OpV) : Prop := I64 o.k ∧ I64 o.m ∧ I64 o.n
theorem OpV.len (o : OpV) : o.dat.cells.length = 3 := rfl
theorem op_cells {w : World} {a : Option Addr} {os : List OpV} (h : Cells w a (Dat.cellsAll (os.map OpV.dat))) {i : Nat} {o : OpV} (hi : os[i]? = some o) :
    PlainA a ∧ blk a < w.heap.size ∧ w.cell? ⟨blk a, ofs a + i * 3, none⟩ = some (.int .i64 o.k) ∧ w.cell? ⟨blk a, ofs a + i * 3 + 1, none⟩ = some (.int .i64 o.m) ∧ w.cell? ⟨blk a, ofs a + i * 3 + 2, none⟩ = some (.int .i64 o.n) := by
  obtain ⟨h1, h2, h3⟩ := row_cell h OpV.len hi (j := 0) (u := .int .i64 o.k) rfl
  obtain ⟨_, _, h4⟩ := row_cell h OpV.len hi (j := 1) (u := .int .i64 o.m) rfl
  obtain ⟨_, _, h5⟩ := row_cell h OpV.len hi (j := 2) (u := .int .i64 o.n) rfl
  exact ⟨h1, h2, h3, h4, h5⟩
theorem open_op {w : World} {d : Dat} (h : d.In Try.prog w 39) : ∃ o : OpV, d = o.dat ∧ o.ok := by
  obtain ⟨ds, rfl, g⟩ := in_struct Try.underlying39 h
  obtain ⟨d0, r0, rfl, h0, g0⟩ := inEach_cons g
  obtain ⟨d1, r1, rfl, h1, g1⟩ := inEach_cons g0
  obtain ⟨d2, r2, rfl, h2, g2⟩ := inEach_cons g1
  obtain rfl := inEach_nil g2
  obtain ⟨k, rfl, hk⟩ := in_int Try.underlying3 h0
  obtain ⟨m, rfl, hm⟩ := in_int Try.underlying3 h1
  obtain ⟨n, rfl, hn⟩ := in_int Try.underlying3 h2
  exact ⟨⟨k, m, n⟩, rfl, I64.of_wf hk, I64.of_wf hm, I64.of_wf hn⟩

set_option maxHeartbeats 4000000 in
set_option maxRecDepth 100000 in
theorem runs_walk (me : Int) (a1 : Option Addr) (cap1 : Nat) (xs : List Int) (base most now : Int) (a5 : Option Addr) (cap5 : Nat) (os : List OpV) (w : World)
   (im : I64 me) (I0 : Ints w a1 xs) (s0 : xs.length * 8 ≤ 140737488351232) (ib : I64 base) (imo : I64 most) (inow : I64 now) (HO : Cells w a5 (Dat.cellsAll (os.map OpV.dat))) (hos : ∀ o ∈ os, o.ok) (hol : os.length ≤ 9223372036854775807) :
    Calls Try.prog 5 #[.int .i64 me, .slice a1 xs.length cap1, .int .i64 base, .int .i64 most, .int .i64 now, .slice a5 os.length cap5] w fun e w' => e = .returned (.bool true) ∧ Below w.heap.size w w' := by
  have J0 := Lib.hid I0; clear I0
  have CO := Lib.hid HO; clear HO
  have OK := Lib.hid hos; clear hos
  go_enter Try.func5, Try.ntmps5
  go_wp2_with fail
  refine (head_any _).mono ?_; rintro e w1 ⟨rfl, hb1⟩
  go_wp2_with fail
  by_cases hc : setOkB xs = true
  · refine (refNew_any _ _ xs me base most now _ (J0.out.ext hb1) hc).mono ?_; rintro e w2 ⟨ma2, mc2, rfl, I2, hb2, hn2⟩
    have K2 := hb1.trans (hb2.mono hb1.size)
    simp only [tmCells]
    go_wp2_with (at_builtin; refine clone_ints rfl _ _ rfl _ rfl (heap_at _ _ _ (by simp)) _ _ _ rfl (J0.out.ext (by repeat (first | exact Below.refl _ _ | assumption | (refine Below.setCell ?_ (by first | omega | (simp; omega) | (simp; done)) _) | (refine below_drewN ?_ _) | (refine Below.drew ?_) | (refine Below.allocW ?_ _) | (refine Below.alloc ?_ (by first | omega | (simp; omega) | (simp; done)) _)))) s0 ?_; intro g3 cap3 w3 hb3 I3 _)
    have l2 := I2.at_ (by have := (setOkB_iff.1 hc).1; omega)
    have BM3 : Blk w3 w2.heap.size (tmCells ma2 xs.length mc2 (newTm me base most now)) 35 :=
      (Blk.new w2 (tmCells ma2 xs.length mc2 (newTm me base most now)) 35).ext ((Below.refl _ _).allocW _ |>.trans (hb3.mono (by simp)))
    have hw3 : Below w2.heap.size w2 w3 := (((Below.refl _ _).allocW _).allocW _).trans (hb3.mono (by simp))
    have hz3 := hw3.size
    have hlm := BM3.lt
    refine (new_any _ _ xs me base most now _ I3 hc).mono ?_; rintro e w4 ⟨b, ma, mc, rfl, T4, hb4, h41, h42, hmb, hb5⟩
    have BM := Lib.hid (BM3.ext hb4)
    have IM := Lib.hid (I2.ext (hw3.trans (hb4.mono hz3)))
    have K4 := Lib.hid (K2.trans ((hw3.trans (hb4.mono hz3)).mono K2.size))
    have TT := Lib.hid T4
    have q1 : b ≠ w2.heap.size := by omega
    have q2 : blk ma2 ≠ b := by omega
    have q3 : blk ma2 ≠ w2.heap.size := by omega
    have q4 : blk ma ≠ w2.heap.size := by omega
    have q5 : w.heap.size ≤ w2.heap.size := K2.size
    have q6 : w.heap.size ≤ b := by omega
    have l0 : 0 < xs.length := by have := (setOkB_iff.1 hc).1; omega
    have SK := Lib.hid (newTm_ok me base most now inow)
    have SN := Lib.hid (show (-4611686018427387904 ≤ now ∧ now ≤ 4611686018427387904) → -4611686018427387904 ≤ (newTm me base most now).since ∧ (newTm me base most now).since ≤ 4611686018427387904 from fun h => h)
    generalize newTm me base most now = S0 at *
    generalize w2.heap.size = bm at *
    clear K2 I2 hb2 hn2 hb3 I3 BM3 hw3 hz3 T4 hb4 h41 h42 hmb hb5 hb1 l2 hlm
    go_wp2_with fail
    go_loopw [16] (fun v wr => ∃ (i : Nat) (s : Tm), v = .int .i64 i ∧ i ≤ 100 ∧ Hid s.ok ∧ Hid ((-4611686018427387904 ≤ now ∧ now ≤ 4611686018427387904) → -4611686018427387904 ≤ s.since ∧ s.since ≤ 4611686018427387904) ∧
        Hid (Tmr wr b ma mc xs s) ∧ Hid (Blk wr bm (tmCells ma2 xs.length mc2 s) 35) ∧ Hid (Ints wr ma2 xs) ∧ Hid (Below w.heap.size w wr)) (fun v _ => 100 - (intOf v).toNat)
    case atStart => exact ⟨0, S0, rfl, by omega, SK, SN, TT, BM, IM, K4⟩
    case round =>
      clear SK SN TT BM IM K4
      obtain ⟨i, s, rfl, hi, SK, SN, TT, BM, IM, KW⟩ := hrel
      by_cases hin : i < os.length ∧ i < 100
      · obtain ⟨hi1, hi2⟩ := hin
        obtain ⟨o, ho⟩ : ∃ o, os[i]? = some o := ⟨_, List.getElem?_eq_getElem hi1⟩
        obtain ⟨p1, p2, p3, p4, p5⟩ := op_cells (CO.out.ext KW.out) ho
        have OO := Lib.hid (OK.out o (List.mem_of_getElem? ho))
        have HO := Lib.hid ho; clear ho
        obtain ⟨kk, om, on⟩ := o
        dsimp only at p3 p4 p5
        have zb : bm < wr.heap.size := BM.out.lt
        by_cases hr : (-4611686018427387904 ≤ on ∧ on ≤ 4611686018427387904) ∧ (-4611686018427387904 ≤ now ∧ now ≤ 4611686018427387904)
        · obtain ⟨⟨r1, r2⟩, r3, r4⟩ := hr
          have SI := SN.out ⟨r3, r4⟩
          have OI := OO.out.2.1
          replace SI := Lib.hid SI
          by_cases k0 : kk = 0
          · subst k0
            have R0 := refTick_any ma2 mc2 xs s on (wr.alloc (.cells #[.int .i64 0, .int .i64 om, .int .i64 on] 39)) (IM.out.ext (by repeat (first | exact Below.refl _ _ | assumption | (refine Below.setCell ?_ (by first | omega | (simp; omega) | (simp; done)) _) | (refine below_drewN ?_ _) | (refine Below.drew ?_) | (refine Below.allocW ?_ _) | (refine Below.alloc ?_ (by first | omega | (simp; omega) | (simp; done)) _)))) l0 SK.out ⟨r1, r2⟩ SI.out
            have TK := Lib.hid (fun w' => tick_any b ma mc xs s on w')
            have SK' := Lib.hid (tick_ok (xs := xs) SK.out (now := on) ⟨by omega, by omega⟩)
            have SN' := Lib.hid (show -4611686018427387904 ≤ (tmTick xs s on).1.since ∧ (tmTick xs s on).1.since ≤ 4611686018427387904 by
              have := SI.out
              exact tick_near this ⟨r1, r2⟩)
            generalize tmTick xs s on = p at *
            obtain ⟨s', f⟩ := p
            have BC := BM.out
            simp only [tmCells] at BC R0
            have c0 := BC.cell 0 _ rfl
            have c1 := BC.cell 1 _ rfl
            have c2 := BC.cell 2 _ rfl
            have c3 := BC.cell 3 _ rfl
            have c4 := BC.cell 4 _ rfl
            have c5 := BC.cell 5 _ rfl
            have c6 := BC.cell 6 _ rfl
            clear BC
            replace R0 := Lib.hid R0
            go_wp2_with fail
            refine R0.out.mono ?_; rintro e w5 ⟨rfl, hb5⟩
            have HE5 : Below wr.heap.size wr w5 := ((Below.refl _ _).allocW _).trans (hb5.mono (by simp))
            have BO5 := (Blk.new wr [.int .i64 0, .int .i64 om, .int .i64 on] 39).ext hb5
            have d2 := BO5.cell 2 _ rfl
            have BM5 := BM.out.ext HE5
            simp only [tmCells] at BM5
            clear c0 c1 c2 c3 c4 c5 c6
            have c0 := BM5.cell 0 _ rfl
            have c1 := BM5.cell 1 _ rfl
            have c2 := BM5.cell 2 _ rfl
            have c3 := BM5.cell 3 _ rfl
            have c4 := BM5.cell 4 _ rfl
            have c5 := BM5.cell 5 _ rfl
            have c6 := BM5.cell 6 _ rfl
            have f0 := BM5.frozen 0
            have f1 := BM5.frozen 1
            have f2 := BM5.frozen 2
            have f3 := BM5.frozen 3
            have f4 := BM5.frozen 4
            have f5 := BM5.frozen 5
            have f6 := BM5.frozen 6
            have l5 := BM5.lt
            have l5o := BO5.lt
            replace BM5 := Lib.hid BM5
            have hE5 := Lib.hid HE5
            have TT5 := Lib.hid (TT.out.ext HE5)
            clear HE5 hb5 BO5
            go_wp2_with fail
            have G6 : w5.grownBy ((((((((w5.setCell ⟨bm, 0, none⟩ (.int .i64 s'.me)).setCell ⟨bm, 1, none⟩ (.slice ma2 xs.length mc2)).setCell ⟨bm, 2, none⟩ (.int .i64 s'.base)).setCell ⟨bm, 3, none⟩ (.int .i64 s'.most)).setCell ⟨bm, 4, none⟩ (.int .i64 s'.wait)).setCell ⟨bm, 5, none⟩ (.int .i64 s'.since)).setCell ⟨bm, 6, none⟩ (.int .i64 s'.round)).alloc (.cells #[.int .i64 s'.me, .slice ma2 xs.length mc2, .int .i64 s'.base, .int .i64 s'.most, .int .i64 s'.wait, .int .i64 s'.since, .int .i64 s'.round] 35)) (some bm) := grown_alloc (grown_set (grown_set (grown_set (grown_set (grown_set (grown_set (grown_set (grown_refl w5 bm) 0 (.int .i64 s'.me)) 1 (.slice ma2 xs.length mc2)) 2 (.int .i64 s'.base)) 3 (.int .i64 s'.most)) 4 (.int .i64 s'.wait)) 5 (.int .i64 s'.since)) 6 (.int .i64 s'.round)) _
            have B6 : Blk ((((((((w5.setCell ⟨bm, 0, none⟩ (.int .i64 s'.me)).setCell ⟨bm, 1, none⟩ (.slice ma2 xs.length mc2)).setCell ⟨bm, 2, none⟩ (.int .i64 s'.base)).setCell ⟨bm, 3, none⟩ (.int .i64 s'.most)).setCell ⟨bm, 4, none⟩ (.int .i64 s'.wait)).setCell ⟨bm, 5, none⟩ (.int .i64 s'.since)).setCell ⟨bm, 6, none⟩ (.int .i64 s'.round)).alloc (.cells #[.int .i64 s'.me, .slice ma2 xs.length mc2, .int .i64 s'.base, .int .i64 s'.most, .int .i64 s'.wait, .int .i64 s'.since, .int .i64 s'.round] 35)) bm (tmCells ma2 xs.length mc2 s') 35 := ((((((((BM5.out.set 0 _).set 1 _).set 2 _).set 3 _).set 4 _).set 5 _).set 6 _).alloc _ :)
            generalize ((((((((w5.setCell ⟨bm, 0, none⟩ (.int .i64 s'.me)).setCell ⟨bm, 1, none⟩ (.slice ma2 xs.length mc2)).setCell ⟨bm, 2, none⟩ (.int .i64 s'.base)).setCell ⟨bm, 3, none⟩ (.int .i64 s'.most)).setCell ⟨bm, 4, none⟩ (.int .i64 s'.wait)).setCell ⟨bm, 5, none⟩ (.int .i64 s'.since)).setCell ⟨bm, 6, none⟩ (.int .i64 s'.round)).alloc (.cells #[.int .i64 s'.me, .slice ma2 xs.length mc2, .int .i64 s'.base, .int .i64 s'.most, .int .i64 s'.wait, .int .i64 s'.since, .int .i64 s'.round] 35)) = w6 at *
            refine (TK.out _ (TT5.out.grown G6 q1 q4) SK.out ⟨by omega, by omega⟩).mono ?_
            rintro e w7 ⟨rfl, T7, hg7⟩
            have B7 := Lib.hid (B6.grown hg7 (Ne.symm q1))
            have I7 := Lib.hid (((IM.out.ext hE5.out).grown G6 q3).grown hg7 q2)
            have K7 := Lib.hid (below_grown (below_grown (Below.step KW.out hE5.out) G6 q5) hg7 q6)
            replace T7 := Lib.hid T7
            clear G6 B6 hg7 c0 c1 c2 c3 c4 c5 c6 f0 f1 f2 f3 f4 f5 f6 d2
            (have BX := B7.out; simp only [tmCells] at BX; have e4 := BX.cell 4 _ rfl; have e6 := BX.cell 6 _ rfl; clear BX; go_wp2_with fail; go_quiet (first | (go_at_call 10; exact (round_any _ _ _ _ _ _ (T7.out.ext (by repeat (first | exact Below.refl _ _ | assumption | (refine Below.setCell ?_ (by first | omega | (simp; omega) | (simp; done)) _) | (refine below_drewN ?_ _) | (refine Below.drew ?_) | (refine Below.allocW ?_ _) | (refine Below.alloc ?_ (by first | omega | (simp; omega) | (simp; done)) _))))).mono fun _ _ h => ⟨h.1, _, h.2.symm⟩) | (go_at_call 14; exact (wait_any _ _ _ _ _ _ (T7.out.ext (by repeat (first | exact Below.refl _ _ | assumption | (refine Below.setCell ?_ (by first | omega | (simp; omega) | (simp; done)) _) | (refine below_drewN ?_ _) | (refine Below.drew ?_) | (refine Below.allocW ?_ _) | (refine Below.alloc ?_ (by first | omega | (simp; omega) | (simp; done)) _))))).mono fun _ _ h => ⟨h.1, _, h.2.symm⟩)); go_wp2_with fail; go_roundw; (case rel => exact ⟨i + 1, _, by first | go_num | (congr 1; omega), by omega, SK', Lib.hid (fun _ => SN'.out), Lib.hid (T7.out.ext (by repeat (first | exact Below.refl _ _ | assumption | (refine Below.setCell ?_ (by first | omega | (simp; omega) | (simp; done)) _) | (refine below_drewN ?_ _) | (refine Below.drew ?_) | (refine Below.allocW ?_ _) | (refine Below.alloc ?_ (by first | omega | (simp; omega) | (simp; done)) _)))), Lib.hid (B7.out.ext (by repeat (first | exact Below.refl _ _ | assumption | (refine Below.setCell ?_ (by first | omega | (simp; omega) | (simp; done)) _) | (refine below_drewN ?_ _) | (refine Below.drew ?_) | (refine Below.allocW ?_ _) | (refine Below.alloc ?_ (by first | omega | (simp; omega) | (simp; done)) _)))), Lib.hid (I7.out.ext (by repeat (first | exact Below.refl _ _ | assumption | (refine Below.setCell ?_ (by first | omega | (simp; omega) | (simp; done)) _) | (refine below_drewN ?_ _) | (refine Below.drew ?_) | (refine Below.allocW ?_ _) | (refine Below.alloc ?_ (by first | omega | (simp; omega) | (simp; done)) _)))), Lib.hid (Below.step K7.out (by repeat (first | exact Below.refl _ _ | assumption | (refine Below.setCell ?_ (by first | omega | (simp; omega) | (simp; done)) _) | (refine below_drewN ?_ _) | (refine Below.drew ?_) | (refine Below.allocW ?_ _) | (refine Below.alloc ?_ (by first | omega | (simp; omega) | (simp; done)) _))))⟩); (case measure => (simp [intOf]; omega)))
          · by_cases k1 : kk = 1
            · subst k1
              have BC := BM.out
              have okH := Lib.hid (heard_ok (s := s) (r := om) (now := on) SK.out ⟨by omega, by omega⟩)
              have HC := Lib.hid (fun w' (h : Tmr w' b ma mc xs s) => heard_any b ma mc xs s om on w' h)
              simp only [tmCells] at BC
              have c2 := BC.cell 2 _ rfl
              have c4 := BC.cell 4 _ rfl
              have c5 := BC.cell 5 _ rfl
              have c6 := BC.cell 6 _ rfl
              by_cases hb : s.round ≤ om ∧ 1 ≤ om ∧ om ≤ 1099511627776
              · have E := Lib.hid (show heardB s om = true by simp only [heardB, decide_eq_true_eq]; omega)
                have E2 := Lib.hid (show tmHeard s om on = { s with round := om, wait := s.base, since := on } by unfold tmHeard; rw [if_pos E.out])
                have f4 := BC.frozen 4
                have f5 := BC.frozen 5
                have f6 := BC.frozen 6
                clear BC
                go_wp2_with fail
                have G6 : wr.grownBy ((((wr.setCell ⟨bm, 6, none⟩ (.int .i64 om)).setCell ⟨bm, 4, none⟩ (.int .i64 s.base)).setCell ⟨bm, 5, none⟩ (.int .i64 on)).alloc (.cells #[.int .i64 1, .int .i64 om, .int .i64 on] 39)) (some bm) := grown_alloc (grown_set (grown_set (grown_set (grown_refl wr bm) 6 (.int .i64 om)) 4 (.int .i64 s.base)) 5 (.int .i64 on)) _
                have B6 : Blk ((((wr.setCell ⟨bm, 6, none⟩ (.int .i64 om)).setCell ⟨bm, 4, none⟩ (.int .i64 s.base)).setCell ⟨bm, 5, none⟩ (.int .i64 on)).alloc (.cells #[.int .i64 1, .int .i64 om, .int .i64 on] 39)) bm (tmCells ma2 xs.length mc2 { s with round := om, wait := s.base, since := on }) 35 := ((((BM.out.set 6 _).set 4 _).set 5 _).alloc _ :)
                generalize ((((wr.setCell ⟨bm, 6, none⟩ (.int .i64 om)).setCell ⟨bm, 4, none⟩ (.int .i64 s.base)).setCell ⟨bm, 5, none⟩ (.int .i64 on)).alloc (.cells #[.int .i64 1, .int .i64 om, .int .i64 on] 39)) = w6 at *
                refine (HC.out _ (TT.out.grown G6 q1 q4)).mono ?_
                rintro e w7 ⟨rfl, T7, hg7⟩
                rw [E2.out] at T7
                rw [E.out]
                have SK' := okH.out
                rw [E2.out] at SK'
                replace SK' := Lib.hid SK'
                have B7 := Lib.hid (B6.grown hg7 (Ne.symm q1))
                have I7 := Lib.hid ((IM.out.grown G6 q3).grown hg7 q2)
                have K7 := Lib.hid (below_grown (below_grown KW.out G6 q5) hg7 q6)
                have SN' := Lib.hid (And.intro r1 r2)
                replace T7 := Lib.hid T7
                clear G6 B6 hg7 c2 c4 c5 c6 f4 f5 f6
                (have BX := B7.out; simp only [tmCells] at BX; have e4 := BX.cell 4 _ rfl; have e6 := BX.cell 6 _ rfl; clear BX; go_wp2_with fail; go_quiet (first | (go_at_call 10; exact (round_any _ _ _ _ _ _ (T7.out.ext (by repeat (first | exact Below.refl _ _ | assumption | (refine Below.setCell ?_ (by first | omega | (simp; omega) | (simp; done)) _) | (refine below_drewN ?_ _) | (refine Below.drew ?_) | (refine Below.allocW ?_ _) | (refine Below.alloc ?_ (by first | omega | (simp; omega) | (simp; done)) _))))).mono fun _ _ h => ⟨h.1, _, h.2.symm⟩) | (go_at_call 14; exact (wait_any _ _ _ _ _ _ (T7.out.ext (by repeat (first | exact Below.refl _ _ | assumption | (refine Below.setCell ?_ (by first | omega | (simp; omega) | (simp; done)) _) | (refine below_drewN ?_ _) | (refine Below.drew ?_) | (refine Below.allocW ?_ _) | (refine Below.alloc ?_ (by first | omega | (simp; omega) | (simp; done)) _))))).mono fun _ _ h => ⟨h.1, _, h.2.symm⟩)); go_wp2_with fail; go_roundw; (case rel => exact ⟨i + 1, _, by first | go_num | (congr 1; omega), by omega, SK', Lib.hid (fun _ => SN'.out), Lib.hid (T7.out.ext (by repeat (first | exact Below.refl _ _ | assumption | (refine Below.setCell ?_ (by first | omega | (simp; omega) | (simp; done)) _) | (refine below_drewN ?_ _) | (refine Below.drew ?_) | (refine Below.allocW ?_ _) | (refine Below.alloc ?_ (by first | omega | (simp; omega) | (simp; done)) _)))), Lib.hid (B7.out.ext (by repeat (first | exact Below.refl _ _ | assumption | (refine Below.setCell ?_ (by first | omega | (simp; omega) | (simp; done)) _) | (refine below_drewN ?_ _) | (refine Below.drew ?_) | (refine Below.allocW ?_ _) | (refine Below.alloc ?_ (by first | omega | (simp; omega) | (simp; done)) _)))), Lib.hid (I7.out.ext (by repeat (first | exact Below.refl _ _ | assumption | (refine Below.setCell ?_ (by first | omega | (simp; omega) | (simp; done)) _) | (refine below_drewN ?_ _) | (refine Below.drew ?_) | (refine Below.allocW ?_ _) | (refine Below.alloc ?_ (by first | omega | (simp; omega) | (simp; done)) _)))), Lib.hid (Below.step K7.out (by repeat (first | exact Below.refl _ _ | assumption | (refine Below.setCell ?_ (by first | omega | (simp; omega) | (simp; done)) _) | (refine below_drewN ?_ _) | (refine Below.drew ?_) | (refine Below.allocW ?_ _) | (refine Below.alloc ?_ (by first | omega | (simp; omega) | (simp; done)) _))))⟩); (case measure => (simp [intOf]; omega)))
              · have E := Lib.hid (show heardB s om = false by simp only [heardB, decide_eq_false_iff_not]; omega)
                have E2 := Lib.hid (show tmHeard s om on = s by unfold tmHeard; rw [if_neg (by rw [E.out]; simp)])
                have TX := Lib.hid (TT.out.ext (w' := (wr.alloc (.cells #[.int .i64 1, .int .i64 om, .int .i64 on] 39))) (by repeat (first | exact Below.refl _ _ | assumption | (refine Below.setCell ?_ (by first | omega | (simp; omega) | (simp; done)) _) | (refine below_drewN ?_ _) | (refine Below.drew ?_) | (refine Below.allocW ?_ _) | (refine Below.alloc ?_ (by first | omega | (simp; omega) | (simp; done)) _))))
                have BX := Lib.hid (BM.out.ext (w' := (wr.alloc (.cells #[.int .i64 1, .int .i64 om, .int .i64 on] 39))) (by repeat (first | exact Below.refl _ _ | assumption | (refine Below.setCell ?_ (by first | omega | (simp; omega) | (simp; done)) _) | (refine below_drewN ?_ _) | (refine Below.drew ?_) | (refine Below.allocW ?_ _) | (refine Below.alloc ?_ (by first | omega | (simp; omega) | (simp; done)) _))))
                have IX := Lib.hid (IM.out.ext (w' := (wr.alloc (.cells #[.int .i64 1, .int .i64 om, .int .i64 on] 39))) (by repeat (first | exact Below.refl _ _ | assumption | (refine Below.setCell ?_ (by first | omega | (simp; omega) | (simp; done)) _) | (refine below_drewN ?_ _) | (refine Below.drew ?_) | (refine Below.allocW ?_ _) | (refine Below.alloc ?_ (by first | omega | (simp; omega) | (simp; done)) _))))
                have KX := Lib.hid (Below.step KW.out (show Below wr.heap.size wr (wr.alloc (.cells #[.int .i64 1, .int .i64 om, .int .i64 on] 39)) from (by repeat (first | exact Below.refl _ _ | assumption | (refine Below.setCell ?_ (by first | omega | (simp; omega) | (simp; done)) _) | (refine below_drewN ?_ _) | (refine Below.drew ?_) | (refine Below.allocW ?_ _) | (refine Below.alloc ?_ (by first | omega | (simp; omega) | (simp; done)) _)))))
                clear BC
                go_wp2_with fail
                all_goals first
                  | (exfalso; omega)
                  | (refine (HC.out _ TX.out).mono ?_
                     rintro e w7 ⟨rfl, T7, hg7⟩
                     rw [E2.out] at T7
                     rw [E.out]
                     have B7 := Lib.hid (BX.out.grown hg7 (Ne.symm q1))
                     have I7 := Lib.hid (IX.out.grown hg7 q2)
                     have K7 := Lib.hid (below_grown KX.out hg7 q6)
                     have SK' := SK
                     have SN' := SI
                     replace T7 := Lib.hid T7
                     clear hg7 c2 c4 c5 c6
                     (have BX := B7.out; simp only [tmCells] at BX; have e4 := BX.cell 4 _ rfl; have e6 := BX.cell 6 _ rfl; clear BX; go_wp2_with fail; go_quiet (first | (go_at_call 10; exact (round_any _ _ _ _ _ _ (T7.out.ext (by repeat (first | exact Below.refl _ _ | assumption | (refine Below.setCell ?_ (by first | omega | (simp; omega) | (simp; done)) _) | (refine below_drewN ?_ _) | (refine Below.drew ?_) | (refine Below.allocW ?_ _) | (refine Below.alloc ?_ (by first | omega | (simp; omega) | (simp; done)) _))))).mono fun _ _ h => ⟨h.1, _, h.2.symm⟩) | (go_at_call 14; exact (wait_any _ _ _ _ _ _ (T7.out.ext (by repeat (first | exact Below.refl _ _ | assumption | (refine Below.setCell ?_ (by first | omega | (simp; omega) | (simp; done)) _) | (refine below_drewN ?_ _) | (refine Below.drew ?_) | (refine Below.allocW ?_ _) | (refine Below.alloc ?_ (by first | omega | (simp; omega) | (simp; done)) _))))).mono fun _ _ h => ⟨h.1, _, h.2.symm⟩)); go_wp2_with fail; go_roundw; (case rel => exact ⟨i + 1, _, by first | go_num | (congr 1; omega), by omega, SK', Lib.hid (fun _ => SN'.out), Lib.hid (T7.out.ext (by repeat (first | exact Below.refl _ _ | assumption | (refine Below.setCell ?_ (by first | omega | (simp; omega) | (simp; done)) _) | (refine below_drewN ?_ _) | (refine Below.drew ?_) | (refine Below.allocW ?_ _) | (refine Below.alloc ?_ (by first | omega | (simp; omega) | (simp; done)) _)))), Lib.hid (B7.out.ext (by repeat (first | exact Below.refl _ _ | assumption | (refine Below.setCell ?_ (by first | omega | (simp; omega) | (simp; done)) _) | (refine below_drewN ?_ _) | (refine Below.drew ?_) | (refine Below.allocW ?_ _) | (refine Below.alloc ?_ (by first | omega | (simp; omega) | (simp; done)) _)))), Lib.hid (I7.out.ext (by repeat (first | exact Below.refl _ _ | assumption | (refine Below.setCell ?_ (by first | omega | (simp; omega) | (simp; done)) _) | (refine below_drewN ?_ _) | (refine Below.drew ?_) | (refine Below.allocW ?_ _) | (refine Below.alloc ?_ (by first | omega | (simp; omega) | (simp; done)) _)))), Lib.hid (Below.step K7.out (by repeat (first | exact Below.refl _ _ | assumption | (refine Below.setCell ?_ (by first | omega | (simp; omega) | (simp; done)) _) | (refine below_drewN ?_ _) | (refine Below.drew ?_) | (refine Below.allocW ?_ _) | (refine Below.alloc ?_ (by first | omega | (simp; omega) | (simp; done)) _))))⟩); (case measure => (simp [intOf]; omega))))
            · by_cases k2 : kk = 2
              · subst k2
                have BC := BM.out
                have okH := Lib.hid (seen_ok (s := s) (r := om) (now := on) SK.out ⟨by omega, by omega⟩)
                have HC := Lib.hid (fun w' (h : Tmr w' b ma mc xs s) => seen_any b ma mc xs s om on w' h)
                simp only [tmCells] at BC
                have c2 := BC.cell 2 _ rfl
                have c4 := BC.cell 4 _ rfl
                have c5 := BC.cell 5 _ rfl
                have c6 := BC.cell 6 _ rfl
                by_cases hb : s.round < om ∧ om ≤ 1099511627776
                · have E := Lib.hid (show seenB s om = true by simp only [seenB, decide_eq_true_eq]; omega)
                  have E2 := Lib.hid (show tmSeen s om on = { s with round := om, since := on } by unfold tmSeen; rw [if_pos E.out])
                  have f4 := BC.frozen 4
                  have f5 := BC.frozen 5
                  have f6 := BC.frozen 6
                  clear BC
                  go_wp2_with fail
                  have G6 : wr.grownBy (((wr.setCell ⟨bm, 6, none⟩ (.int .i64 om)).setCell ⟨bm, 5, none⟩ (.int .i64 on)).alloc (.cells #[.int .i64 2, .int .i64 om, .int .i64 on] 39)) (some bm) := grown_alloc (grown_set (grown_set (grown_refl wr bm) 6 (.int .i64 om)) 5 (.int .i64 on)) _
                  have B6 : Blk (((wr.setCell ⟨bm, 6, none⟩ (.int .i64 om)).setCell ⟨bm, 5, none⟩ (.int .i64 on)).alloc (.cells #[.int .i64 2, .int .i64 om, .int .i64 on] 39)) bm (tmCells ma2 xs.length mc2 { s with round := om, since := on }) 35 := (((BM.out.set 6 _).set 5 _).alloc _ :)
                  generalize (((wr.setCell ⟨bm, 6, none⟩ (.int .i64 om)).setCell ⟨bm, 5, none⟩ (.int .i64 on)).alloc (.cells #[.int .i64 2, .int .i64 om, .int .i64 on] 39)) = w6 at *
                  refine (HC.out _ (TT.out.grown G6 q1 q4)).mono ?_
                  rintro e w7 ⟨rfl, T7, hg7⟩
                  rw [E2.out] at T7
                  rw [E.out]
                  have SK' := okH.out
                  rw [E2.out] at SK'
                  replace SK' := Lib.hid SK'
                  have B7 := Lib.hid (B6.grown hg7 (Ne.symm q1))
                  have I7 := Lib.hid ((IM.out.grown G6 q3).grown hg7 q2)
                  have K7 := Lib.hid (below_grown (below_grown KW.out G6 q5) hg7 q6)
                  have SN' := Lib.hid (And.intro r1 r2)
                  replace T7 := Lib.hid T7
                  clear G6 B6 hg7 c2 c4 c5 c6 f4 f5 f6
                  (have BX := B7.out; simp only [tmCells] at BX; have e4 := BX.cell 4 _ rfl; have e6 := BX.cell 6 _ rfl; clear BX; go_wp2_with fail; go_quiet (first | (go_at_call 10; exact (round_any _ _ _ _ _ _ (T7.out.ext (by repeat (first | exact Below.refl _ _ | assumption | (refine Below.setCell ?_ (by first | omega | (simp; omega) | (simp; done)) _) | (refine below_drewN ?_ _) | (refine Below.drew ?_) | (refine Below.allocW ?_ _) | (refine Below.alloc ?_ (by first | omega | (simp; omega) | (simp; done)) _))))).mono fun _ _ h => ⟨h.1, _, h.2.symm⟩) | (go_at_call 14; exact (wait_any _ _ _ _ _ _ (T7.out.ext (by repeat (first | exact Below.refl _ _ | assumption | (refine Below.setCell ?_ (by first | omega | (simp; omega) | (simp; done)) _) | (refine below_drewN ?_ _) | (refine Below.drew ?_) | (refine Below.allocW ?_ _) | (refine Below.alloc ?_ (by first | omega | (simp; omega) | (simp; done)) _))))).mono fun _ _ h => ⟨h.1, _, h.2.symm⟩)); go_wp2_with fail; go_roundw; (case rel => exact ⟨i + 1, _, by first | go_num | (congr 1; omega), by omega, SK', Lib.hid (fun _ => SN'.out), Lib.hid (T7.out.ext (by repeat (first | exact Below.refl _ _ | assumption | (refine Below.setCell ?_ (by first | omega | (simp; omega) | (simp; done)) _) | (refine below_drewN ?_ _) | (refine Below.drew ?_) | (refine Below.allocW ?_ _) | (refine Below.alloc ?_ (by first | omega | (simp; omega) | (simp; done)) _)))), Lib.hid (B7.out.ext (by repeat (first | exact Below.refl _ _ | assumption | (refine Below.setCell ?_ (by first | omega | (simp; omega) | (simp; done)) _) | (refine below_drewN ?_ _) | (refine Below.drew ?_) | (refine Below.allocW ?_ _) | (refine Below.alloc ?_ (by first | omega | (simp; omega) | (simp; done)) _)))), Lib.hid (I7.out.ext (by repeat (first | exact Below.refl _ _ | assumption | (refine Below.setCell ?_ (by first | omega | (simp; omega) | (simp; done)) _) | (refine below_drewN ?_ _) | (refine Below.drew ?_) | (refine Below.allocW ?_ _) | (refine Below.alloc ?_ (by first | omega | (simp; omega) | (simp; done)) _)))), Lib.hid (Below.step K7.out (by repeat (first | exact Below.refl _ _ | assumption | (refine Below.setCell ?_ (by first | omega | (simp; omega) | (simp; done)) _) | (refine below_drewN ?_ _) | (refine Below.drew ?_) | (refine Below.allocW ?_ _) | (refine Below.alloc ?_ (by first | omega | (simp; omega) | (simp; done)) _))))⟩); (case measure => (simp [intOf]; omega)))
                · have E := Lib.hid (show seenB s om = false by simp only [seenB, decide_eq_false_iff_not]; omega)
                  have E2 := Lib.hid (show tmSeen s om on = s by unfold tmSeen; rw [if_neg (by rw [E.out]; simp)])
                  have TX := Lib.hid (TT.out.ext (w' := (wr.alloc (.cells #[.int .i64 2, .int .i64 om, .int .i64 on] 39))) (by repeat (first | exact Below.refl _ _ | assumption | (refine Below.setCell ?_ (by first | omega | (simp; omega) | (simp; done)) _) | (refine below_drewN ?_ _) | (refine Below.drew ?_) | (refine Below.allocW ?_ _) | (refine Below.alloc ?_ (by first | omega | (simp; omega) | (simp; done)) _))))
                  have BX := Lib.hid (BM.out.ext (w' := (wr.alloc (.cells #[.int .i64 2, .int .i64 om, .int .i64 on] 39))) (by repeat (first | exact Below.refl _ _ | assumption | (refine Below.setCell ?_ (by first | omega | (simp; omega) | (simp; done)) _) | (refine below_drewN ?_ _) | (refine Below.drew ?_) | (refine Below.allocW ?_ _) | (refine Below.alloc ?_ (by first | omega | (simp; omega) | (simp; done)) _))))
                  have IX := Lib.hid (IM.out.ext (w' := (wr.alloc (.cells #[.int .i64 2, .int .i64 om, .int .i64 on] 39))) (by repeat (first | exact Below.refl _ _ | assumption | (refine Below.setCell ?_ (by first | omega | (simp; omega) | (simp; done)) _) | (refine below_drewN ?_ _) | (refine Below.drew ?_) | (refine Below.allocW ?_ _) | (refine Below.alloc ?_ (by first | omega | (simp; omega) | (simp; done)) _))))
                  have KX := Lib.hid (Below.step KW.out (show Below wr.heap.size wr (wr.alloc (.cells #[.int .i64 2, .int .i64 om, .int .i64 on] 39)) from (by repeat (first | exact Below.refl _ _ | assumption | (refine Below.setCell ?_ (by first | omega | (simp; omega) | (simp; done)) _) | (refine below_drewN ?_ _) | (refine Below.drew ?_) | (refine Below.allocW ?_ _) | (refine Below.alloc ?_ (by first | omega | (simp; omega) | (simp; done)) _)))))
                  clear BC
                  go_wp2_with fail
                  all_goals first
                    | (exfalso; omega)
                    | (refine (HC.out _ TX.out).mono ?_
                       rintro e w7 ⟨rfl, T7, hg7⟩
                       rw [E2.out] at T7
                       rw [E.out]
                       have B7 := Lib.hid (BX.out.grown hg7 (Ne.symm q1))
                       have I7 := Lib.hid (IX.out.grown hg7 q2)
                       have K7 := Lib.hid (below_grown KX.out hg7 q6)
                       have SK' := SK
                       have SN' := SI
                       replace T7 := Lib.hid T7
                       clear hg7 c2 c4 c5 c6
                       (have BX := B7.out; simp only [tmCells] at BX; have e4 := BX.cell 4 _ rfl; have e6 := BX.cell 6 _ rfl; clear BX; go_wp2_with fail; go_quiet (first | (go_at_call 10; exact (round_any _ _ _ _ _ _ (T7.out.ext (by repeat (first | exact Below.refl _ _ | assumption | (refine Below.setCell ?_ (by first | omega | (simp; omega) | (simp; done)) _) | (refine below_drewN ?_ _) | (refine Below.drew ?_) | (refine Below.allocW ?_ _) | (refine Below.alloc ?_ (by first | omega | (simp; omega) | (simp; done)) _))))).mono fun _ _ h => ⟨h.1, _, h.2.symm⟩) | (go_at_call 14; exact (wait_any _ _ _ _ _ _ (T7.out.ext (by repeat (first | exact Below.refl _ _ | assumption | (refine Below.setCell ?_ (by first | omega | (simp; omega) | (simp; done)) _) | (refine below_drewN ?_ _) | (refine Below.drew ?_) | (refine Below.allocW ?_ _) | (refine Below.alloc ?_ (by first | omega | (simp; omega) | (simp; done)) _))))).mono fun _ _ h => ⟨h.1, _, h.2.symm⟩)); go_wp2_with fail; go_roundw; (case rel => exact ⟨i + 1, _, by first | go_num | (congr 1; omega), by omega, SK', Lib.hid (fun _ => SN'.out), Lib.hid (T7.out.ext (by repeat (first | exact Below.refl _ _ | assumption | (refine Below.setCell ?_ (by first | omega | (simp; omega) | (simp; done)) _) | (refine below_drewN ?_ _) | (refine Below.drew ?_) | (refine Below.allocW ?_ _) | (refine Below.alloc ?_ (by first | omega | (simp; omega) | (simp; done)) _)))), Lib.hid (B7.out.ext (by repeat (first | exact Below.refl _ _ | assumption | (refine Below.setCell ?_ (by first | omega | (simp; omega) | (simp; done)) _) | (refine below_drewN ?_ _) | (refine Below.drew ?_) | (refine Below.allocW ?_ _) | (refine Below.alloc ?_ (by first | omega | (simp; omega) | (simp; done)) _)))), Lib.hid (I7.out.ext (by repeat (first | exact Below.refl _ _ | assumption | (refine Below.setCell ?_ (by first | omega | (simp; omega) | (simp; done)) _) | (refine below_drewN ?_ _) | (refine Below.drew ?_) | (refine Below.allocW ?_ _) | (refine Below.alloc ?_ (by first | omega | (simp; omega) | (simp; done)) _)))), Lib.hid (Below.step K7.out (by repeat (first | exact Below.refl _ _ | assumption | (refine Below.setCell ?_ (by first | omega | (simp; omega) | (simp; done)) _) | (refine below_drewN ?_ _) | (refine Below.drew ?_) | (refine Below.allocW ?_ _) | (refine Below.alloc ?_ (by first | omega | (simp; omega) | (simp; done)) _))))⟩); (case measure => (simp [intOf]; omega))))
              · have T7 := Lib.hid (TT.out.ext (w' := wr.alloc (.cells #[.int .i64 kk, .int .i64 om, .int .i64 on] 39)) (by repeat (first | exact Below.refl _ _ | assumption | (refine Below.setCell ?_ (by first | omega | (simp; omega) | (simp; done)) _) | (refine below_drewN ?_ _) | (refine Below.drew ?_) | (refine Below.allocW ?_ _) | (refine Below.alloc ?_ (by first | omega | (simp; omega) | (simp; done)) _))))
                have B7 := Lib.hid (BM.out.ext (w' := wr.alloc (.cells #[.int .i64 kk, .int .i64 om, .int .i64 on] 39)) (by repeat (first | exact Below.refl _ _ | assumption | (refine Below.setCell ?_ (by first | omega | (simp; omega) | (simp; done)) _) | (refine below_drewN ?_ _) | (refine Below.drew ?_) | (refine Below.allocW ?_ _) | (refine Below.alloc ?_ (by first | omega | (simp; omega) | (simp; done)) _))))
                have I7 := Lib.hid (IM.out.ext (w' := wr.alloc (.cells #[.int .i64 kk, .int .i64 om, .int .i64 on] 39)) (by repeat (first | exact Below.refl _ _ | assumption | (refine Below.setCell ?_ (by first | omega | (simp; omega) | (simp; done)) _) | (refine below_drewN ?_ _) | (refine Below.drew ?_) | (refine Below.allocW ?_ _) | (refine Below.alloc ?_ (by first | omega | (simp; omega) | (simp; done)) _))))
                have K7 := Lib.hid (Below.step KW.out (show Below wr.heap.size wr (wr.alloc (.cells #[.int .i64 kk, .int .i64 om, .int .i64 on] 39)) from (by repeat (first | exact Below.refl _ _ | assumption | (refine Below.setCell ?_ (by first | omega | (simp; omega) | (simp; done)) _) | (refine below_drewN ?_ _) | (refine Below.drew ?_) | (refine Below.allocW ?_ _) | (refine Below.alloc ?_ (by first | omega | (simp; omega) | (simp; done)) _)))))
                have SK' := SK
                have SN' := SI
                (have BX := B7.out; simp only [tmCells] at BX; have e4 := BX.cell 4 _ rfl; have e6 := BX.cell 6 _ rfl; clear BX; go_wp2_with fail; go_quiet (first | (go_at_call 10; exact (round_any _ _ _ _ _ _ (T7.out.ext (by repeat (first | exact Below.refl _ _ | assumption | (refine Below.setCell ?_ (by first | omega | (simp; omega) | (simp; done)) _) | (refine below_drewN ?_ _) | (refine Below.drew ?_) | (refine Below.allocW ?_ _) | (refine Below.alloc ?_ (by first | omega | (simp; omega) | (simp; done)) _))))).mono fun _ _ h => ⟨h.1, _, h.2.symm⟩) | (go_at_call 14; exact (wait_any _ _ _ _ _ _ (T7.out.ext (by repeat (first | exact Below.refl _ _ | assumption | (refine Below.setCell ?_ (by first | omega | (simp; omega) | (simp; done)) _) | (refine below_drewN ?_ _) | (refine Below.drew ?_) | (refine Below.allocW ?_ _) | (refine Below.alloc ?_ (by first | omega | (simp; omega) | (simp; done)) _))))).mono fun _ _ h => ⟨h.1, _, h.2.symm⟩)); go_wp2_with fail; go_roundw; (case rel => exact ⟨i + 1, _, by first | go_num | (congr 1; omega), by omega, SK', Lib.hid (fun _ => SN'.out), Lib.hid (T7.out.ext (by repeat (first | exact Below.refl _ _ | assumption | (refine Below.setCell ?_ (by first | omega | (simp; omega) | (simp; done)) _) | (refine below_drewN ?_ _) | (refine Below.drew ?_) | (refine Below.allocW ?_ _) | (refine Below.alloc ?_ (by first | omega | (simp; omega) | (simp; done)) _)))), Lib.hid (B7.out.ext (by repeat (first | exact Below.refl _ _ | assumption | (refine Below.setCell ?_ (by first | omega | (simp; omega) | (simp; done)) _) | (refine below_drewN ?_ _) | (refine Below.drew ?_) | (refine Below.allocW ?_ _) | (refine Below.alloc ?_ (by first | omega | (simp; omega) | (simp; done)) _)))), Lib.hid (I7.out.ext (by repeat (first | exact Below.refl _ _ | assumption | (refine Below.setCell ?_ (by first | omega | (simp; omega) | (simp; done)) _) | (refine below_drewN ?_ _) | (refine Below.drew ?_) | (refine Below.allocW ?_ _) | (refine Below.alloc ?_ (by first | omega | (simp; omega) | (simp; done)) _)))), Lib.hid (Below.step K7.out (by repeat (first | exact Below.refl _ _ | assumption | (refine Below.setCell ?_ (by first | omega | (simp; omega) | (simp; done)) _) | (refine below_drewN ?_ _) | (refine Below.drew ?_) | (refine Below.allocW ?_ _) | (refine Below.alloc ?_ (by first | omega | (simp; omega) | (simp; done)) _))))⟩); (case measure => (simp [intOf]; omega)))
        · go_wp2_with fail
          all_goals first
            | (exfalso; omega)
            | (go_roundw
               case rel => exact ⟨i + 1, s, by first | go_num | (congr 1; omega), by omega, SK, SN, Lib.hid (TT.out.ext (by repeat (first | exact Below.refl _ _ | assumption | (refine Below.setCell ?_ (by first | omega | (simp; omega) | (simp; done)) _) | (refine below_drewN ?_ _) | (refine Below.drew ?_) | (refine Below.allocW ?_ _) | (refine Below.alloc ?_ (by first | omega | (simp; omega) | (simp; done)) _)))), Lib.hid (BM.out.ext (by repeat (first | exact Below.refl _ _ | assumption | (refine Below.setCell ?_ (by first | omega | (simp; omega) | (simp; done)) _) | (refine below_drewN ?_ _) | (refine Below.drew ?_) | (refine Below.allocW ?_ _) | (refine Below.alloc ?_ (by first | omega | (simp; omega) | (simp; done)) _)))), Lib.hid (IM.out.ext (by repeat (first | exact Below.refl _ _ | assumption | (refine Below.setCell ?_ (by first | omega | (simp; omega) | (simp; done)) _) | (refine below_drewN ?_ _) | (refine Below.drew ?_) | (refine Below.allocW ?_ _) | (refine Below.alloc ?_ (by first | omega | (simp; omega) | (simp; done)) _)))), Lib.hid (Below.step KW.out (by repeat (first | exact Below.refl _ _ | assumption | (refine Below.setCell ?_ (by first | omega | (simp; omega) | (simp; done)) _) | (refine below_drewN ?_ _) | (refine Below.drew ?_) | (refine Below.allocW ?_ _) | (refine Below.alloc ?_ (by first | omega | (simp; omega) | (simp; done)) _))))⟩
               case measure => simp [intOf]; omega)
      · go_wp2_with fail
        all_goals first
          | (exfalso; omega)
          | (go_ret; exact ⟨rfl, KW.out⟩)
  · have hc' : setOkB xs = false := by simpa using hc
    refine (refNew_none _ _ xs me base most now _ (J0.out.ext hb1) hc').mono ?_; rintro e w2 ⟨rfl, hb2⟩
    have K2 := hb1.trans (hb2.mono hb1.size)
    go_wp2_with (at_builtin; refine clone_ints rfl _ _ rfl _ rfl (heap_at _ _ _ (by simp)) _ _ _ rfl (J0.out.ext (by repeat (first | exact Below.refl _ _ | assumption | (refine Below.setCell ?_ (by first | omega | (simp; omega) | (simp; done)) _) | (refine below_drewN ?_ _) | (refine Below.drew ?_) | (refine Below.allocW ?_ _) | (refine Below.alloc ?_ (by first | omega | (simp; omega) | (simp; done)) _)))) s0 ?_; intro g3 cap3 w3 hb3 I3 _)
    have K3 := Lib.hid (K2.trans (((((Below.refl _ _).allocW _).allocW _).trans (hb3.mono (by simp))).mono K2.size))
    refine (new_none _ _ xs me base most now _ I3 hc').mono ?_; rintro e w' ⟨rfl, rfl⟩
    clear hb3 I3 K2 hb2
    go_wp2_with fail
    refine (tick_nil _ _).mono ?_; rintro e w' ⟨rfl, rfl⟩
    go_wp2_with fail
    refine (heard_nil _ _ _).mono ?_; rintro e w' ⟨rfl, rfl⟩
    go_wp2_with fail
    refine (seen_nil _ _ _).mono ?_; rintro e w' ⟨rfl, rfl⟩
    go_wp2_with fail
    refine (round_nil _).mono ?_; rintro e w' ⟨rfl, rfl⟩
    go_wp2_with fail
    refine (wait_nil _).mono ?_; rintro e w' ⟨rfl, rfl⟩
    go_wp2_with fail
    go_ret
    exact ⟨rfl, K3.out⟩

theorem runs_args (me : Int) (a1 : Option Addr) (cap1 : Nat) (xs : List Int) (base most now : Int) (a5 : Option Addr) (cap5 : Nat) (ds : List Dat) (w : World)
   (im : I64 me) (I0 : Ints w a1 xs) (s0 : xs.length * 8 ≤ 140737488351232) (ib : I64 base) (imo : I64 most) (inow : I64 now) (HO : Cells w a5 (Dat.cellsAll ds)) (hds : ∀ d ∈ ds, d.In Try.prog w 39) (hol : ds.length ≤ 9223372036854775807) (hsz : ds.length * Try.prog.bytesOf 39 ≤ reachBytes) :
    Calls Try.prog 5 #[.int .i64 me, .slice a1 xs.length cap1, .int .i64 base, .int .i64 most, .int .i64 now, .slice a5 ds.length cap5] w fun e w' => e = .returned (.bool true) ∧ Below w.heap.size w w' := by
  obtain ⟨os, rfl, hos⟩ := list_map_of OpV.dat OpV.ok ds fun d hd => open_op (hds d hd)
  rw [List.length_map] at hol ⊢
  exact runs_walk me a1 cap1 xs base most now a5 cap5 os w im I0 s0 ib imo inow HO hos hol
end Go.Proofs.Ytdjjiamiiglepaa
