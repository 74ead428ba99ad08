/- The walk of the law BallotTurns. -/
import Derived.Test.YtkkmcgoiipkblaaBalHead
import Derived.Test.YtkkmcgoiipkblaaBalNext
import Derived.Test.YtkkmcgoiipkblaaClone
import Derived.Deep.RegionHeld3
import Derived.Deep.DeepCutAuto
namespace Go.Proofs.Ytkkmcgoiipkblaa
open Go.ChangeShapes Go.WideShapes Go.ChangeAt Go.RowKit Go.Syn
set_option linter.unusedVariables false
set_option linter.unusedSimpArgs false

theorem new_two {w w' : World} {u v : Value} {T : TypeId} (hb : Below (w.alloc (.cells #[u, v] T)).drew.heap.size (w.alloc (.cells #[u, v] T)).drew w') :
    w'.cell? ⟨w.heap.size, 0, none⟩ = some u ∧ w'.cell? ⟨w.heap.size, 1, none⟩ = some v ∧ w'.frozen? ⟨w.heap.size, 0, none⟩ = false ∧ w'.frozen? ⟨w.heap.size, 1, none⟩ = false := by
  refine ⟨?_, ?_, ?_, ?_⟩
  · rw [hb.cell (p := ⟨w.heap.size, 0, none⟩) (by simp)]; simp [go_sem]
  · rw [hb.cell (p := ⟨w.heap.size, 1, none⟩) (by simp)]; simp [go_sem]
  · rw [hb.frozen (p := ⟨w.heap.size, 0, none⟩) (by simp)]; simp [go_sem]
  · rw [hb.frozen (p := ⟨w.heap.size, 1, none⟩) (by simp)]; simp [go_sem]

set_option maxHeartbeats 2000000 in
set_option maxRecDepth 100000 in
theorem turns_walk (a0 : Option Addr) (cap0 : Nat) (xs0 : List Int) (r n i : Int) (w : World)
   (I0 : Ints w a0 xs0) (s0 : xs0.length * 8 ≤ 140737488351232) (ir : I64 r) (inn : I64 n) (ii : I64 i) :
    Calls Try.prog 7 #[.slice a0 xs0.length cap0, .agg #[.int .i64 r, .int .i64 n], .int .i64 i] w fun e w' => e = .returned (.bool true) ∧ Below w.heap.size w w' := by
  have J0 := Lib.hid I0; clear I0
  have hbW : Below w.heap.size w (w.alloc (.cells #[.int .i64 r, .int .i64 n] 35)) := (by repeat (first | exact Below.refl _ _ | assumption | (refine Below.setCell ?_ (by first | omega | (simp; omega) | (simp; done)) _) | (refine below_drewN ?_ _) | (refine Below.drew ?_) | (refine Below.allocW ?_ _) | (refine Below.alloc ?_ (by first | omega | (simp; omega) | (simp; done)) _)))
  have cW0 : (w.alloc (.cells #[.int .i64 r, .int .i64 n] 35)).cell? ⟨w.heap.size, 0, none⟩ = some (.int .i64 r) := by simp [go_sem]
  have cW1 : (w.alloc (.cells #[.int .i64 r, .int .i64 n] 35)).cell? ⟨w.heap.size, 1, none⟩ = some (.int .i64 n) := by simp [go_sem]
  have lW : w.heap.size < (w.alloc (.cells #[.int .i64 r, .int .i64 n] 35)).heap.size := by simp
  go_enter Try.func7, Try.ntmps7
  go_wp2_with fail
  generalize hW : w.alloc (.cells #[.int .i64 r, .int .i64 n] 35) = W at *
  clear hW
  have JW := Lib.hid (J0.out.ext hbW)
  refine (head_any _).mono ?_; rintro e w1 ⟨rfl, hb1⟩
  have BW := Lib.hid hbW; clear hbW
  have CW := Lib.hid (show ∀ w', Below W.heap.size W w' → w'.cell? ⟨w.heap.size, 0, none⟩ = some (.int .i64 r) ∧ w'.cell? ⟨w.heap.size, 1, none⟩ = some (.int .i64 n) ∧ w.heap.size < w'.heap.size from
    fun w' h => ⟨h.cellOf cW0, h.cellOf cW1, h.ltOf lW⟩)
  clear cW0 cW1 lW
  go_wp2_with (at_builtin; refine clone_ints rfl _ _ rfl _ rfl (heap_at _ _ _ (by simp)) _ _ _ rfl (JW.out.ext (by repeat (first | exact Below.refl _ _ | assumption | (refine Below.setCell ?_ (by first | omega | (simp; omega) | (simp; done)) _) | (refine below_drewN ?_ _) | (refine Below.drew ?_) | (refine Below.allocW ?_ _) | (refine Below.alloc ?_ (by first | omega | (simp; omega) | (simp; done)) _)))) s0 ?_; intro g2 cap2 w2 hb2 I2 _)
  replace hb2 := (hb1.allocW _).trans (hb2.mono (by simpa using hb1.size))
  refine (check_any _ _ _ _ I2).mono ?_; rintro e w' ⟨rfl, rfl⟩
  clear I2 hb1
  by_cases hc : setOkB xs0 = true
  · have C := Lib.hid (show checkV xs0 = 0 by simp [checkV, hc])
    have S := Lib.hid (setOkB_iff.1 hc)
    have l7 := S.out.2.1
    have l0 := S.out.1
    rw [C.out]
    clear hc
    by_cases h0 : 0 ≤ i ∧ i < xs0.length
    · obtain ⟨i0, i1⟩ := h0
      obtain ⟨j, rfl⟩ := Int.eq_ofNat_of_zero_le i0
      have hj : j < xs0.length := by omega
      go_wp2_with (at_builtin; refine clone_ints rfl _ _ rfl _ rfl (heap_at _ _ _ (by simp)) _ _ _ rfl (JW.out.ext (by repeat (first | exact Below.refl _ _ | assumption | (refine Below.setCell ?_ (by first | omega | (simp; omega) | (simp; done)) _) | (refine below_drewN ?_ _) | (refine Below.drew ?_) | (refine Below.allocW ?_ _) | (refine Below.alloc ?_ (by first | omega | (simp; omega) | (simp; done)) _)))) s0 ?_; intro g3 cap3 w3 hb3 I3 _)
      have hw3 : Below w2.heap.size w2 w3 := ((Below.refl _ _).allocW _).trans (hb3.mono (Nat.le_refl _))
      replace hb3 := hb2.trans (hw3.mono hb2.size)
      clear hw3
      have J3 := JW.out.ext hb3
      obtain ⟨ha, hb, hcell⟩ := J3.at_ (by omega)
      replace hcell := hcell j hj
      obtain ⟨c0, c1, l1⟩ := CW.out _ hb3
      have X := Lib.hid (show idx xs0 (xs0.getD j 0) = j from S.out.idx_at hj)
      generalize hv : xs0.getD j 0 = v at *
      have HV := Lib.hid hv; clear hv
      have K3 := Lib.hid I3
      have K0 := Lib.hid J3
      clear I3 J3
      have KS := Lib.hid (show ∀ w', Below w3.heap.size w3 w' → w'.cell? ⟨w.heap.size, 0, none⟩ = some (.int .i64 r) ∧ w'.cell? ⟨w.heap.size, 1, none⟩ = some (.int .i64 n) ∧ w'.cell? ⟨blk a0, ofs a0 + j, none⟩ = some (.int .i64 v) from
        fun w' h => ⟨h.cellOf c0, h.cellOf c1, h.cellOf hcell⟩)
      obtain ⟨n1, n2, n3, hN⟩ : ∃ n1 n2 n3, nextV xs0 r v = (n1, n2, n3) := ⟨_, _, _, rfl⟩
      have HN := Lib.hid hN; clear hN
      have NB := Lib.hid (show ∀ x, Below w3.heap.size w3 x → Calls Try.prog 19 #[.slice (some ⟨g3, 0, none⟩) xs0.length cap3, .agg #[.int .i64 r, .int .i64 n], .int .i64 v] x
          fun e w' => e = .returned (.tuple #[.agg #[.int .i64 n1, .int .i64 n2], .int .i64 n3]) ∧ Below w3.heap.size w3 w' from fun x hx =>
        (next_any _ _ xs0 r n v x (K3.out.ext hx)).mono fun e w' ⟨he, hb⟩ => ⟨by rw [he, HN.out], Below.step hx hb⟩)
      have NA := Lib.hid (show Calls Try.prog 19 #[.slice (some ⟨g3, 0, none⟩) xs0.length cap3, .agg #[.int .i64 r, .int .i64 n], .int .i64 v] (w3.alloc (.cells #[.int .i64 0, .int .i64 0] 35)).drew
          fun e w' => e = .returned (.tuple #[.agg #[.int .i64 n1, .int .i64 n2], .int .i64 n3]) ∧ w'.cell? ⟨w3.heap.size, 0, none⟩ = some (.int .i64 0) ∧ w'.cell? ⟨w3.heap.size, 1, none⟩ = some (.int .i64 0) ∧ w'.frozen? ⟨w3.heap.size, 0, none⟩ = false ∧ w'.frozen? ⟨w3.heap.size, 1, none⟩ = false ∧ Below w3.heap.size w3 w' from
        (next_any _ _ xs0 r n v _ (K3.out.ext (by repeat (first | exact Below.refl _ _ | assumption | (refine Below.setCell ?_ (by first | omega | (simp; omega) | (simp; done)) _) | (refine below_drewN ?_ _) | (refine Below.drew ?_) | (refine Below.allocW ?_ _) | (refine Below.alloc ?_ (by first | omega | (simp; omega) | (simp; done)) _))))).mono fun e w' ⟨he, hb⟩ => by
          obtain ⟨z0, z1, z2, z3⟩ := new_two hb
          exact ⟨by rw [he, HN.out], z0, z1, z2, z3, Below.step (W := w3) (by repeat (first | exact Below.refl _ _ | assumption | (refine Below.setCell ?_ (by first | omega | (simp; omega) | (simp; done)) _) | (refine below_drewN ?_ _) | (refine Below.drew ?_) | (refine Below.allocW ?_ _) | (refine Below.alloc ?_ (by first | omega | (simp; omega) | (simp; done)) _))) hb⟩)
      go_cut [8, 9] (fun p e w' => ∃ g : Nat, p = .pointer (some ⟨g, 0, none⟩) ∧ e = .int .i64 n3 ∧ w'.cell? ⟨g, 0, none⟩ = some (.int .i64 n1) ∧ w'.cell? ⟨g, 1, none⟩ = some (.int .i64 n2) ∧ Below w3.heap.size w3 w')
      · go_region_held3 (fun w' => w'.cell? ⟨w.heap.size, 0, none⟩ = some (.int .i64 r) ∧ w'.cell? ⟨w.heap.size, 1, none⟩ = some (.int .i64 n) ∧ w'.cell? ⟨blk a0, ofs a0 + j, none⟩ = some (.int .i64 v))
          (exact KS.out _ (by repeat (first | exact Below.refl _ _ | assumption | (refine Below.setCell ?_ (by first | omega | (simp; omega) | (simp; done)) _) | (refine below_drewN ?_ _) | (refine Below.drew ?_) | (refine Below.allocW ?_ _) | (refine Below.alloc ?_ (by first | omega | (simp; omega) | (simp; done)) _))))
          (first
            | (go_at_call 19; refine (NA.out).mono ?_; rintro e w4 ⟨rfl, z0, z1, z2, z3, hb4⟩)
            | (go_at_call 19; refine (NB.out _ ?_).mono ?_; (exact (by repeat (first | exact Below.refl _ _ | assumption | (refine Below.setCell ?_ (by first | omega | (simp; omega) | (simp; done)) _) | (refine below_drewN ?_ _) | (refine Below.drew ?_) | (refine Below.allocW ?_ _) | (refine Below.alloc ?_ (by first | omega | (simp; omega) | (simp; done)) _)))); rintro e w4 ⟨rfl, hb4⟩))
        · go_wp2_with fail
          go_meet
          case rel => exact ⟨w4.heap.size, rfl, rfl, by simp [go_sem], by simp [go_sem], (by repeat (first | exact Below.refl _ _ | assumption | (refine Below.setCell ?_ (by first | omega | (simp; omega) | (simp; done)) _) | (refine below_drewN ?_ _) | (refine Below.drew ?_) | (refine Below.allocW ?_ _) | (refine Below.alloc ?_ (by first | omega | (simp; omega) | (simp; done)) _)))⟩
        · go_wp2_with fail
          go_meet
          case rel => exact ⟨w3.heap.size, rfl, rfl, by simp [go_sem, z0, z1], by simp [go_sem, z0, z1], (by repeat (first | exact Below.refl _ _ | assumption | (refine Below.setCell ?_ (by first | omega | (simp; omega) | (simp; done)) _) | (refine below_drewN ?_ _) | (refine Below.drew ?_) | (refine Below.allocW ?_ _) | (refine Below.alloc ?_ (by first | omega | (simp; omega) | (simp; done)) _)))⟩
      · obtain ⟨g, rfl, rfl, d0, d1, hbc⟩ := hcut
        obtain ⟨e0, e1, e2⟩ := KS.out _ hbc
        clear c0 c1 hcell
        have lg : g < wc.heap.size := World.block_lt_of_cell? wc ⟨g, 0, none⟩ d0
        have lw := hbc.ltOf l1
        have la := hbc.ltOf hb
        have BC := Lib.hid hbc
        have DV := Lib.hid (show nextV xs0 r v = if (j : Int) < 0 ∨ 7 < xs0.length ∨ r < 0 ∨ 1099511627776 < r then (0, 0, 1) else if 1099511627776 < nextR xs0.length r j then (0, 0, 27) else (nextR xs0.length r j, v, 0) by
          unfold nextV; rw [X.out])
        by_cases hr : r < 0 ∨ 1099511627776 < r
        · have hN : (n1, n2, n3) = (0, 0, 1) := by rw [← HN.out, DV.out, if_pos (by omega)]
          simp only [Prod.mk.injEq] at hN
          obtain ⟨rfl, rfl, rfl⟩ := hN
          go_wp2_with fail
          all_goals first
            | (go_ret; exact ⟨ret_bool (by simp; try omega), BW.out.trans ((hb3.trans (BC.out.mono hb3.size)).mono BW.out.size)⟩)
            | go_show
        · obtain ⟨q1, q2, q3⟩ := nextR_spec (len := xs0.length) (r := r) (i := j) (by omega) (by omega) (by omega)
          have NL := Lib.hid (fun s (h1 : r < s) (h2 : s < nextR xs0.length r j) => nextR_least (len := xs0.length) (r := r) (i := j) (s := s) (by omega) (by omega) (by omega) h1 h2)
          have DW := Lib.hid (show nextV xs0 r v = if 1099511627776 < nextR xs0.length r j then (0, 0, 27) else (nextR xs0.length r j, v, 0) by rw [DV.out, if_neg (by omega)])
          have L1 := Lib.hid (show leaderV xs0 (nextR xs0.length r j) = v by rw [leader_of_round (by omega) hj q3, HV.out])
          generalize hR : nextR xs0.length r j = R at *
          clear hR q3
          by_cases hm : 1099511627776 < R
          · have hN : (n1, n2, n3) = (0, 0, 27) := by rw [← HN.out, DW.out, if_pos hm]
            simp only [Prod.mk.injEq] at hN
            obtain ⟨rfl, rfl, rfl⟩ := hN
            go_wp2_with fail
            all_goals first
              | (go_ret; exact ⟨ret_bool (by simp; try omega), BW.out.trans ((hb3.trans (BC.out.mono hb3.size)).mono BW.out.size)⟩)
              | go_show
          · have hN : (n1, n2, n3) = (R, v, 0) := by rw [← HN.out, DW.out, if_neg hm]
            simp only [Prod.mk.injEq] at hN
            obtain ⟨rfl, rfl, rfl⟩ := hN
            have r0 : 0 ≤ r := by omega
            have r1 : r ≤ 1099511627776 := by omega
            have p1 : decide (n1 ≤ r) = false := by simp; omega
            have p2 : decide ((xs0.length : Int) < n1 - r) = false := by simp; omega
            have CP := Lib.hid (show compareV n1 n2 r n = 1 by unfold compareV cmpV; rw [if_neg (by split <;> omega), if_neg (by omega), if_pos (by omega)])
            have HB3 := Lib.hid (BW.out.trans (hb3.mono BW.out.size))
            have F := Lib.hid (show ∀ y, Below wc.heap.size wc y → Below w3.heap.size w3 y from fun y hy => Below.step BC.out hy)
            have LC : Hid (∀ y, Below w3.heap.size w3 y → ∀ z, 1 ≤ z → z ≤ 1099511627776 → Calls Try.prog 16 #[.slice (some ⟨g3, 0, none⟩) xs0.length cap3, .int .i64 z] y fun e w' => e = .returned (.int .i64 (leaderV xs0 z)) ∧ y = w') :=
              fun y hy z h1 h2 => leader_any _ _ _ _ _ (K3.out.ext hy) ⟨by omega, by omega⟩
            have R1 : Hid (∀ x : ExtOf wc, Calls Try.prog 16 #[.slice (some ⟨g3, 0, none⟩) xs0.length cap3, .int .i64 n1] x.world fun e w' => e = .returned (.int .i64 n2) ∧ x.world = w') := fun x => by
              have := LC.out x.world (F.out _ x.ext) n1 (by omega) (by omega); rw [L1.out] at this; exact this
            have R2 : Hid (∀ x : ExtOf wc, Calls Try.prog 20 #[.agg #[.int .i64 n1, .int .i64 n2], .agg #[.int .i64 r, .int .i64 n]] x.world fun e w' => e = .returned (.int .i64 1) ∧ Below x.world.heap.size x.world w') := fun x => by
              have := compare_any n1 n2 r n x.world; rw [CP.out] at this; exact this
            have hm2 : n1 ≤ 1099511627776 := by omega
            clear hbc hr hm hb3 hb2
            go_wp2_with fail
            skip; (refine wp_region_ext (by kernel_rfl) (by kernel_rfl) ?_; (repeat (go_big_quiet_step ((first | (go_at_call 16; exact quiet_ext_same (R1.out _)) | (go_at_call 20; exact quiet_ext (R2.out _)))))); refine wpQuiet_nil ?_; intro _ hw'; obtain ⟨xq, hw''⟩ := hw'; subst hw'')
            go_wp2_with fail
            have LN := Lib.hid (fun z (h1 : r < z) (h2 : z < n1) => by have h := leader_not S.out (i := j) (z := z) (by omega) hj (NL.out z h1 h2); rw [HV.out] at h; exact h)
            have QB := Lib.hid xq.ext
            go_loopw [10] (fun x wr => ∃ z : Int, x = .int .i64 z ∧ r < z ∧ z ≤ n1 ∧ Below wc.heap.size wc wr) (fun x _ => (n1 - intOf x).toNat)
            case atStart => exact ⟨r + 1, rfl, by omega, by omega, QB.out⟩
            case round =>
              obtain ⟨z, rfl, z1, z2, hbr⟩ := hrel
              have d0' := hbr.cellOf d0
              have e2' := hbr.cellOf e2
              have lg' := hbr.ltOf lg
              have la' := hbr.ltOf la
              have HR := Lib.hid hbr
              clear hbr
              by_cases hz : z < n1
              · have nv := LN.out z z1 hz
                have nv' : (leaderV xs0 z == n2) = false := by simpa using nv
                clear nv
                have R3 : Hid (∀ x : ExtOf wr, Calls Try.prog 16 #[.slice (some ⟨g3, 0, none⟩) xs0.length cap3, .int .i64 z] x.world fun e w' => e = .returned (.int .i64 (leaderV xs0 z)) ∧ x.world = w') := fun x =>
                  LC.out x.world (F.out _ (Below.step HR.out x.ext)) z (by omega) (by omega)
                generalize leaderV xs0 z = y at *
                go_wp2_with fail
                skip; (refine wp_region_ext (by kernel_rfl) (by kernel_rfl) ?_; (repeat (go_big_quiet_step ((go_at_call 16; exact quiet_ext_same (R3.out _))))); refine wpQuiet_nil ?_; intro _ hw'; obtain ⟨xq, hw''⟩ := hw'; subst hw'')
                go_wp2_with fail
                go_roundw
                case rel => exact ⟨z + 1, rfl, by omega, by omega, Below.step HR.out xq.ext⟩
                case measure => simp [intOf]; omega
              · go_wp2_with fail
                go_ret
                exact ⟨rfl, HB3.out.trans ((Below.step BC.out HR.out).mono HB3.out.size)⟩
    · go_wp2_with fail
      all_goals first
        | (exfalso; omega)
        | (go_ret; exact ⟨rfl, BW.out.trans (hb2.mono BW.out.size)⟩)
  · have C := Lib.hid (show checkV xs0 = 24 by simp [checkV, hc])
    rw [C.out]
    go_wp2_with fail
    go_ret
    exact ⟨rfl, BW.out.trans (hb2.mono BW.out.size)⟩
end Go.Proofs.Ytkkmcgoiipkblaa
