/- The walk of the law BallotShares. -/
import Derived.Test.YtkkmcgoiipkblaaBalHead
import Derived.Test.YtkkmcgoiipkblaaBalNext
import Derived.Test.YtkkmcgoiipkblaaClone
import Derived.Test.YtkkmcgoiipkblaaMask
namespace Go.Proofs.Ytkkmcgoiipkblaa
open Go.ChangeShapes Go.WideShapes Go.ChangeAt Go.RowKit Go.Syn
set_option linter.unusedVariables false
set_option linter.unusedSimpArgs false

/-- The leaders of k rounds from r on. -/
def leads (xs : List Int) (r : Int) (k : Nat) : List Int := (List.range k).map fun i : Nat => leaderV xs (r + (i : Int))
theorem leads_succ (xs : List Int) (r : Int) (k : Nat) : leads xs r (k + 1) = leads xs r k ++ [leaderV xs (r + k)] := by simp [leads, List.range_succ]
theorem leads_length (xs : List Int) (r : Int) (k : Nat) : (leads xs r k).length = k := by simp [leads]

theorem leader_mem {xs : List Int} {r : Int} (h0 : 0 < xs.length) (h1 : 1 ≤ r) : leaderV xs r ∈ xs := by
  rw [leaderV_at h0 h1]
  have m0 := Int.emod_nonneg (r - 1) (b := xs.length) (by omega)
  have m1 := Int.emod_lt_of_pos (r - 1) (b := xs.length) (by omega)
  exact getD_mem (by omega)
theorem leader_again {xs : List Int} {r : Int} (h0 : 0 < xs.length) (h1 : 1 ≤ r) : leaderV xs (r + xs.length) = leaderV xs r := by
  rw [leaderV_at h0 h1, leaderV_at h0 (by omega), show r + xs.length - 1 = (r - 1) + xs.length by omega, Int.add_emod_right]
/-- Within one turn of rounds no leader comes twice. -/
theorem leader_inj {xs : List Int} (hs : SetOk xs) {r : Int} (h1 : 1 ≤ r) {i k : Nat} (hi : i < k) (hk : k < xs.length) : leaderV xs (r + i) ≠ leaderV xs (r + k) := by
  rw [leaderV_at (by omega) (by omega), leaderV_at (by omega) (by omega)]
  intro e
  have m0 := Int.emod_nonneg (r + i - 1) (b := xs.length) (by omega)
  have m1 := Int.emod_lt_of_pos (r + i - 1) (b := xs.length) (by omega)
  have m2 := Int.emod_nonneg (r + k - 1) (b := xs.length) (by omega)
  have m3 := Int.emod_lt_of_pos (r + k - 1) (b := xs.length) (by omega)
  have := hs.inj (by omega) (by omega) e
  have e2 : ((r + k - 1) - (r + i - 1)) % (xs.length : Int) = 0 := by
    rw [Int.sub_emod, show (r + k - 1) % (xs.length : Int) = (r + i - 1) % (xs.length : Int) by omega]; simp
  obtain ⟨q, hq⟩ := Int.dvd_of_emod_eq_zero e2
  have h2 : 0 < (xs.length : Int) * q := by omega
  have h3 : (xs.length : Int) * q < xs.length * 1 := by omega
  have q1 : q < 1 := Int.lt_of_mul_lt_mul_left h3 (by omega)
  have q2 : 0 < q := by
    rcases Int.lt_or_le 0 q with h | h
    · exact h
    · have := Int.mul_le_mul_of_nonneg_left h (show (0 : Int) ≤ xs.length by omega); simp at this; omega
  omega
theorem lead_new {xs : List Int} (hs : SetOk xs) {r : Int} (h1 : 1 ≤ r) {k : Nat} (hk : k < xs.length) : hasB (leads xs r k) (leaderV xs (r + k)) = false := by
  rw [hasB_eq, decide_eq_false_iff_not]
  simp only [leads, List.mem_map, List.mem_range, not_exists, not_and]
  exact fun i hi => leader_inj hs h1 hi hk
/-- In as many rounds as there are members each leads. -/
theorem lead_all {xs : List Int} (hs : SetOk xs) {r : Int} (h1 : 1 ≤ r) {v : Int} (hv : v ∈ xs) : v ∈ leads xs r xs.length := by
  obtain ⟨i, hi, e⟩ := mem_getD hv
  obtain ⟨n1, n2, n3⟩ := nextR_spec (len := xs.length) (r := r - 1) (i := i) (by omega) (by omega) (by omega)
  simp only [leads, List.mem_map, List.mem_range]
  refine ⟨(nextR xs.length (r - 1) i - r).toNat, by omega, ?_⟩
  rw [show r + ((nextR xs.length (r - 1) i - r).toNat : Int) = nextR xs.length (r - 1) i by omega, leader_of_round (by omega) hi n3]
  exact e
theorem lead_enough {xs : List Int} (hs : SetOk xs) {r : Int} (h1 : 1 ≤ r) : enoughB xs (leads xs r xs.length) = true := by
  have : inCount xs (leads xs r xs.length) = xs.length := by
    unfold inCount; rw [List.countP_eq_length]
    exact fun v hv => hasB_iff.2 (lead_all hs h1 hv)
  have := hs.1
  unfold enoughB quorumV
  rw [decide_eq_true_eq]; omega
theorem leads_fit {xs : List Int} (hs : SetOk xs) {r : Int} (h1 : 1 ≤ r) (k : Nat) : ∀ x ∈ leads xs r k, I64 x := by
  intro x hx
  simp only [leads, List.mem_map, List.mem_range] at hx
  obtain ⟨i, hi, rfl⟩ := hx
  obtain ⟨j, hj, e⟩ := mem_getD (leader_mem (xs := xs) (by have := hs.1; omega) (show 1 ≤ r + i by omega))
  have := hs.range hj
  rw [← e]; unfold I64; omega

set_option maxHeartbeats 1000000 in
theorem shares_walk (a0 : Option Addr) (cap0 : Nat) (xs0 : List Int) (r : Int) (w : World)
   (I0 : Ints w a0 xs0) (s0 : xs0.length * 8 ≤ 140737488351232) (ir : I64 r) :
    Calls Try.prog 5 #[.slice a0 xs0.length cap0, .int .i64 r] w fun e w' => e = .returned (.bool true) ∧ Below w.heap.size w w' := by
  have J0 := Lib.hid I0; clear I0
  have hb0 : Below w.heap.size w w := Below.refl _ _
  have q0 := Int.emod_nonneg r (b := 65536) (by decide)
  have q1 := Int.emod_lt_of_pos r (b := 65536) (by decide)
  have hm := mask_65535 r
  generalize r % 65536 = q at *
  go_enter Try.func5, Try.ntmps5
  go_wp2_with fail
  refine (head_any _).mono ?_; rintro e w1 ⟨rfl, hb1⟩; replace hb1 := Below.step hb0 hb1
  go_wp2_with (at_builtin; refine clone_ints rfl _ _ rfl _ rfl (heap_at _ _ _ (by simp)) _ _ _ rfl (J0.out.ext (by repeat (first | exact Below.refl _ _ | assumption | (refine Below.setCell ?_ (by first | omega | (simp; omega) | (simp; done)) _) | (refine below_drewN ?_ _) | (refine Below.drew ?_) | (refine Below.allocW ?_ _) | (refine Below.alloc ?_ (by first | omega | (simp; omega) | (simp; done)) _)))) s0 ?_; intro g2 cap2 w2 hb2 I2 _)
  replace hb2 := (hb1.allocW _).trans (hb2.mono (by simpa using hb1.size))
  refine (check_any _ _ _ _ I2).mono ?_; rintro e w' ⟨rfl, rfl⟩
  by_cases hc : setOkB xs0 = true
  · have C := Lib.hid (show checkV xs0 = 0 by simp [checkV, hc])
    have S := Lib.hid (setOkB_iff.1 hc)
    rw [C.out]
    go_wp2_with (at_builtin; refine clone_ints rfl _ _ rfl _ rfl (heap_at _ _ _ (by simp)) _ _ _ rfl (J0.out.ext (by repeat (first | exact Below.refl _ _ | assumption | (refine Below.setCell ?_ (by first | omega | (simp; omega) | (simp; done)) _) | (refine below_drewN ?_ _) | (refine Below.drew ?_) | (refine Below.allocW ?_ _) | (refine Below.alloc ?_ (by first | omega | (simp; omega) | (simp; done)) _)))) s0 ?_; intro g3 cap3 w3 hb3 I3 _)
    have hw3 : Below w2.heap.size w2 w3 := ((Below.refl _ _).allocW _).trans (hb3.mono (Nat.le_refl _))
    replace hb3 := hb2.trans (hw3.mono hb2.size)
    have l7 := S.out.2.1
    have l0 := S.out.1
    have HB3 := Lib.hid hb3
    have K3 := Lib.hid I3
    have O0 := Lib.hid (show (w3.alloc (.cells #[] 3)).ownsRow w3.heap.size 3 1 (.slice (some ⟨w3.heap.size, 0, none⟩) 0 0) 0 [] from
      ⟨by simp, .inr ⟨w3.heap.size, 0, #[], rfl, Nat.le_refl _, heap_top _ _, Nat.le_refl _, Nat.zero_le _, by simp, by simp⟩⟩)
    clear I3 I2 hb0 hb1 hb2 hb3 hw3
    go_loopw [6, 7] (fun v i wr => ∃ (k g cap : Nat), k ≤ xs0.length ∧ v = .slice (some ⟨g, 0, none⟩) k cap ∧ i = .int .i64 (1 + q + k) ∧
        wr.ownsRow w3.heap.size 3 1 (.slice (some ⟨g, 0, none⟩) k cap) k ((leads xs0 (1 + q) k).map (Value.int .i64)) ∧ Below w3.heap.size w3 wr)
      (fun _ i _ => (1 + q + xs0.length - intOf i).toNat)
    case atStart => exact ⟨0, _, 0, by omega, rfl, by simp, O0.out, (by repeat (first | exact Below.refl _ _ | assumption | (refine Below.setCell ?_ (by first | omega | (simp; omega) | (simp; done)) _) | (refine below_drewN ?_ _) | (refine Below.drew ?_) | (refine Below.allocW ?_ _) | (refine Below.alloc ?_ (by first | omega | (simp; omega) | (simp; done)) _)))⟩
    case round =>
      obtain ⟨k, g, cap, hk, rfl, rfl, hown, hbr⟩ := hrel
      have KR := Lib.hid (K3.out.ext hbr)
      have L := Lib.hid (show Ints wr (some ⟨g, 0, none⟩) (leads xs0 (1 + q) k) from Ints.of_cells (by rw [leads_length]; omega) (leads_fit S.out (by omega) k) (ownsRow_cells hown))
      have LL := Lib.hid (leads_length xs0 (1 + q) k)
      have OW := Lib.hid hown
      have hsz := hbr.size
      have BR := Lib.hid hbr
      clear hown hbr
      by_cases hlt : k < xs0.length
      · have M1 := Lib.hid (leader_mem (xs := xs0) (r := 1 + q + k) (by omega) (by omega))
        have M2 := Lib.hid (lead_new S.out (r := 1 + q) (by omega) hlt)
        have M3 := Lib.hid (leads_succ xs0 (1 + q) k)
        go_wp2_with fail
        refine (leader_any _ _ xs0 _ _ KR.out ⟨by omega, by omega⟩).mono ?_; rintro e w' ⟨rfl, rfl⟩
        generalize hv : leaderV xs0 (1 + q + k) = v at *
        clear hv
        go_wp2_with fail
        refine (has_any _ _ xs0 _ _ KR.out).mono ?_; rintro e w' ⟨rfl, rfl⟩; rw [hasB_iff.2 M1.out]
        go_wp2_with fail
        have R := refHas_any (some ⟨g, 0, none⟩) cap (leads xs0 (1 + q) k) v wr L.out
        rw [LL.out] at R
        refine R.mono ?_; rintro e w' ⟨rfl, rfl⟩; rw [M2.out]
        clear R
        go_wp2_with (at_builtin; refine wpList_push_int rfl _ _ 22 rfl w3.heap.size 3 Try.underlying22 info_int _ _ _ _ rfl (OW.out.alloc _) _ _ _ _ _ rfl (heap_at _ _ _ (by simp)) (by omega) (by simp; omega) ?_; intro g' cap' w' hown' hg' _)
        go_roundw
        case rel =>
          refine ⟨k + 1, g', cap', by omega, rfl, by first | go_num | (congr 1; omega), ?_, ?_⟩
          · rw [M3.out]; simpa using hown'
          · exact (BR.out.allocW _).grown hg' (by simp; omega) (fun n e => by cases e; exact (OW.out.lt g rfl).1)
        case measure => simp [intOf]; omega
      · have hk2 : k = xs0.length := by omega
        subst hk2
        have A1 := Lib.hid (leader_again (xs := xs0) (r := 1 + q) (by omega) (by omega))
        have A2 := Lib.hid (lead_enough S.out (r := 1 + q) (by omega))
        have c0 : wr.cell? ⟨g, 0, none⟩ = some (.int .i64 (leaderV xs0 (1 + q))) := by
          have h0 := OW.out.cells (g := g) rfl 0 (.int .i64 (leaderV xs0 (1 + q))) (by
            rw [List.getElem?_map, show (leads xs0 (1 + q) xs0.length)[0]? = some (leaderV xs0 (1 + q)) by
              simp only [leads, List.getElem?_map, List.getElem?_range (show 0 < xs0.length by omega)]; simp]; rfl)
          rw [Go.WideShapes.add_plain] at h0; exact h0
        have lg := (OW.out.lt g rfl).2
        have z0 : (0 : Int) < xs0.length := by omega
        have R1 : Hid (∀ x : ExtOf wr, Calls Try.prog 16 #[.slice (some ⟨g3, 0, none⟩) xs0.length cap3, .int .i64 (1 + q + xs0.length)] x.world fun e w' => e = .returned (.int .i64 (leaderV xs0 (1 + q))) ∧ x.world = w') := fun x => by
          rw [← A1.out]; exact leader_any _ _ _ _ _ (KR.out.ext x.ext) ⟨by omega, by omega⟩
        have R2 : Hid (∀ x : ExtOf wr, Calls Try.prog 14 #[.slice (some ⟨g3, 0, none⟩) xs0.length cap3, .slice (some ⟨g, 0, none⟩) xs0.length cap] x.world fun e w' => e = .returned (.bool true) ∧ x.world = w') := fun x => by
          have R := enough_any (some ⟨g3, 0, none⟩) cap3 xs0 (some ⟨g, 0, none⟩) cap (leads xs0 (1 + q) xs0.length) x.world (KR.out.ext x.ext) (L.out.ext x.ext)
          rw [LL.out, A2.out] at R; exact R
        generalize hv : leaderV xs0 (1 + q) = v at *
        clear hv
        go_wp2_with fail
        skip; (refine wp_region_ext (by kernel_rfl) (by kernel_rfl) ?_; (repeat (go_big_quiet_step ((first | (go_at_call 16; exact quiet_ext_same (R1.out _)) | (go_at_call 14; exact quiet_ext_same (R2.out _)))))); refine wpQuiet_nil ?_; intro _ hw'; obtain ⟨xq, hw''⟩ := hw'; subst hw'')
        go_wp2_with fail
        go_ret
        exact ⟨ret_bool (by simp), HB3.out.trans ((BR.out.trans (xq.ext.mono hsz)).mono HB3.out.size)⟩
  · have C := Lib.hid (show checkV xs0 = 24 by simp [checkV, hc])
    rw [C.out]
    go_wp2_with fail
    go_ret
    exact ⟨rfl, hb2⟩
end Go.Proofs.Ytkkmcgoiipkblaa
