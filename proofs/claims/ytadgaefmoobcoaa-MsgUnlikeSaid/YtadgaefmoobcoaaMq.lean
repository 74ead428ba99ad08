/- MsgBack. -/
import Derived.Test.YtadgaefmoobcoaaMp
namespace Go.Proofs.Ytadgaefmoobcoaa
open Go.ChangeShapes Go.WideShapes Go.ChangeAt Go.RowKit Go.Syn Go.Eng
set_option linter.unusedVariables false
set_option linter.unusedSimpArgs false
set_option maxRecDepth 100000
abbrev tLBack7b0 : List LV := [(tVi 43), (tVi 44), (tVi 45), (tVi 46), (tVi 47), (tVi 48), (tVi 49), (tVi 50), (tVi 51), (tVi 52), (tSl 10 20 21), (tSl 11 22 23), (tSl 12 24 25), (tVi 53), (tVi 54), (tVi 55), (tVi 56), (tVi 57), (tVi 58), (tVi 59), (tVi 60), (tVi 61), (tVi 62), (tVi 63), (tSl 13 26 27)]
abbrev tLBack7b1 : List LV := [(tVi 65), (tVi 66), (tVi 67), (tVi 68), (tVi 69), (tVi 70), (tVi 71), (tVi 72), (tVi 73), (tVi 74), (tSl 14 28 29), (tSl 15 30 31), (tSl 16 32 33), (tVi 75), (tVi 76), (tVi 77), (tVi 78), (tVi 79), (tVi 80), (tVi 81), (tVi 82), (tVi 83), (tVi 84), (tVi 85), (tSl 17 34 35)]
abbrev tLBack7b2 : List LV := [(tVi 65), (tVi 66), (tVi 67), (tVi 68), (tVi 69), (tVi 70), (tVi 71), (tVi 72), (tVi 73), (tVi 74), (tSl 15 30 31), (tSl 16 32 33), (tSl 17 34 35), (tVi 75), (tVi 76), (tVi 77), (tVi 78), (tVi 79), (tVi 80), (tVi 81), (tVi 82), (tVi 83), (tVi 84), (tVi 85), (tSl 18 36 37)]
abbrev tLBack7b3 : List LV := [(tVi 21), (tVi 22), (tVi 23), (tVi 24), (tVi 25), (tVi 26), (tVi 27), (tVi 28), (tVi 29), (tVi 30), (tSl 5 10 11), (tSl 6 12 13), (tSl 7 14 15), (tVi 31), (tVi 32), (tVi 33), (tVi 34), (tVi 35), (tVi 36), (tVi 37), (tVi 38), (tVi 39), (tVi 40), (tVi 41), (tSl 8 16 17)]
abbrev tLBack7b4 : List LV := [(tVi 0), (tVi 1), (tVi 2), (tVi 3), (tVi 4), (tVi 5), (tVi 6), (tVi 7), (tVi 8), (tVi 9), (tSl 0 0 1), (tSl 1 2 3), (tSl 2 4 5), (tVi 10), (tVi 11), (tVi 12), (tVi 13), (tVi 14), (tVi 15), (tVi 16), (tVi 17), (tVi 18), (tVi 19), (tVi 20), (tSl 3 6 7)]
abbrev tLBack7m0 : Mem := ⟨[(37, tLBack7b4), (37, tLBack7b1)], ⟨87, 1, 0, 36, 18⟩⟩
abbrev tLBack7m1 : Mem := ⟨[(37, tLBack7b4), (37, tLBack7b1)], ⟨87, 2, 0, 36, 18⟩⟩
abbrev tLBack7m2 : Mem := ⟨[(37, tLBack7b4), (37, tLBack7b2)], ⟨87, 1, 0, 38, 19⟩⟩
abbrev tLBack7m3 : Mem := ⟨[(37, tLBack7b4), (37, tLBack7b2)], ⟨87, 2, 0, 38, 19⟩⟩
abbrev tLBack7m4 : Mem := ⟨[(37, tLBack7b4), (37, tLBack7b2)], ⟨88, 1, 0, 40, 20⟩⟩
abbrev tLBack7m5 : Mem := ⟨[(37, tLBack7b4), (37, tLBack7b2)], ⟨88, 2, 0, 40, 20⟩⟩
set_option maxRecDepth 100000 in
theorem tLBack7 : (runF ⟨tt, fns, { joins := [(10, ⟨[], []⟩)] }⟩ (Try.f6.body.getD .skip) Try.f6.results.toList (entry Try.f6.ntmps [.agg [.int .i64 (.var 0), .int .i64 (.var 1), .int .i64 (.var 2), .int .i64 (.var 3), .int .i64 (.var 4), .int .i64 (.var 5), .int .i64 (.var 6), .int .i64 (.var 7), .int .i64 (.var 8), .int .i64 (.var 9), .sl 0 (.var 0) (.var 1), .sl 1 (.var 2) (.var 3), .sl 2 (.var 4) (.var 5), .int .i64 (.var 10), .int .i64 (.var 11), .int .i64 (.var 12), .int .i64 (.var 13), .int .i64 (.var 14), .int .i64 (.var 15), .int .i64 (.var 16), .int .i64 (.var 17), .int .i64 (.var 18), .int .i64 (.var 19), .int .i64 (.var 20), .sl 3 (.var 6) (.var 7)], .lf (.sl 4 (.var 8) (.var 9))] [] ⟨21, 0, 0, 10, 5⟩)) =
  (.call 9 [] ⟨[(37, tLBack7b4)], ⟨21, 0, 0, 10, 5⟩⟩ (.lf (.bool (.var 0))) ⟨[(37, tLBack7b4)], ⟨21, 1, 0, 10, 5⟩⟩ (.br (.not (.var 0)) (.done (.lf (.bool (.lit .false))) ⟨[(37, tLBack7b4)], ⟨21, 1, 0, 10, 5⟩⟩) (.call 11 [(.agg tLBack7b4)] ⟨[(37, tLBack7b4)], ⟨21, 1, 0, 10, 5⟩⟩ (.agg tLBack7b3) ⟨[(37, tLBack7b4)], ⟨42, 1, 0, 18, 9⟩⟩ (.call 16 [(.agg tLBack7b3)] ⟨[(37, tLBack7b4)], ⟨42, 1, 0, 18, 9⟩⟩ (.tup [(.false, [(tSl 9 18 19)]), (.false, [(tVi 42)])]) ⟨[(37, tLBack7b4)], ⟨43, 1, 0, 20, 10⟩⟩ (.call 11 [(.agg tLBack7b4)] ⟨[(37, tLBack7b4)], ⟨43, 1, 0, 20, 10⟩⟩ (.agg tLBack7b0) ⟨[(37, tLBack7b4)], ⟨64, 1, 0, 28, 14⟩⟩ (.call 10 [(.agg tLBack7b0)] ⟨[(37, tLBack7b4)], ⟨64, 1, 0, 28, 14⟩⟩ (.lf (tVi 64)) ⟨[(37, tLBack7b4)], ⟨65, 1, 0, 28, 14⟩⟩ (.br (.cmp .neq (.var 42) (.var 64)) (.done (.lf (.bool (.lit .false))) ⟨[(37, tLBack7b4)], ⟨65, 1, 0, 28, 14⟩⟩) (.join 10 ⟨[(37, tLBack7b4)], ⟨65, 1, 0, 28, 14⟩⟩ ⟨[(37, tLBack7b4)], ⟨65, 1, 0, 28, 14⟩⟩ (.br (.cmp .eql (.var 42) (.lit 0)) (.call 22 [(.lf (tSl 9 18 19))] ⟨[(37, tLBack7b4)], ⟨65, 1, 0, 28, 14⟩⟩ (.tup [(.true, tLBack7b1), (.false, [(tVi 86)])]) ⟨[(37, tLBack7b4)], ⟨87, 1, 0, 36, 18⟩⟩ (.br (.cmp .neq (.var 86) (.lit 0)) (.done (.lf (.bool (.lit .false))) tLBack7m0) (.call 17 [(.agg tLBack7b1), (.agg tLBack7b4)] tLBack7m0 (.lf (.bool (.var 1))) tLBack7m1 (.br (.not (.var 1)) (.done (.lf (.bool (.lit .false))) tLBack7m1) (.again 10 ⟨[], [], [], [], []⟩ tLBack7m1))))) (.again 10 ⟨[], [], [], [], []⟩ ⟨[(37, tLBack7b4)], ⟨65, 1, 0, 28, 14⟩⟩)) (.call 20 [(.lf (tSl 4 8 9))] ⟨[(37, tLBack7b4)], ⟨65, 1, 0, 28, 14⟩⟩ (.lf (tSl 14 28 29)) ⟨[(37, tLBack7b4)], ⟨65, 1, 0, 30, 15⟩⟩ (.call 22 [(.lf (tSl 14 28 29))] ⟨[(37, tLBack7b4)], ⟨65, 1, 0, 30, 15⟩⟩ (.tup [(.true, tLBack7b2), (.false, [(tVi 86)])]) ⟨[(37, tLBack7b4)], ⟨87, 1, 0, 38, 19⟩⟩ (.br (.cmp .neq (.var 86) (.lit 0)) (.call 17 [(.agg tLBack7b2), (.agg [(tLi 0), (tLi 0), (tLi 0), (tLi 0), (tLi 0), (tLi 0), (tLi 0), (tLi 0), (tLi 0), (tLi 0), .nilsl, .nilsl, .nilsl, (tLi 0), (tLi 0), (tLi 0), (tLi 0), (tLi 0), (tLi 0), (tLi 0), (tLi 0), (tLi 0), (tLi 0), (tLi 0), .nilsl])] tLBack7m2 (.lf (.bool (.var 1))) tLBack7m3 (.done (.lf (.bool (.var 1))) tLBack7m3)) (.call 16 [(.agg tLBack7b2)] tLBack7m2 (.tup [(.false, [(tSl 19 38 39)]), (.false, [(tVi 87)])]) tLBack7m4 (.br (.cmp .eql (.var 87) (.lit 0)) (.call 18 [(.lf (tSl 19 38 39)), (.lf (tSl 4 8 9))] tLBack7m4 (.lf (.bool (.var 1))) tLBack7m5 (.done (.lf (.bool (.var 1))) tLBack7m5)) (.done (.lf (.bool (.lit .false))) tLBack7m4)))))))))))))) := by kernel_rfl
theorem bitB_byt {u b : Int} {X : List Int} (h : Byt X) : Byt (bitB u b X) := by
  unfold bitB
  split
  · exact h
  · exact fun x hx => by cases hx
theorem natsB_byt (ns : List Int) : Byt (natsB ns) := byt_flat fun n _ => numB_byt (natU_lt _)
theorem voBc_byt {x : Vo Vl} (h : VlWf x.v) : Byt (voBc x) := byt_app (numB_byt (natU_lt _)) (byt_app (numB_byt (natU_lt _)) (byt_app (numB_byt (natU_lt _)) (vlB_byt h)))
theorem mBc_byt {o : Mc} (h : McWf o) : Byt (mBc o) := by
  have hdl := h.dl
  unfold mBc
  refine byt_app (numB_byt (natU_lt _)) (byt_app (numB_byt (natU_lt _)) (byt_app (numB_byt (natU_lt _)) (byt_app (numB_byt (natU_lt _)) (byt_app (bitB_byt (natsB_byt _)) (byt_app (bitB_byt (natsB_byt _)) (byt_app (bitB_byt (natsB_byt _)) (byt_app (bitB_byt (natsB_byt _)) (byt_app (bitB_byt (vlB_byt h.v)) (byt_app (bitB_byt (natsB_byt _)) (byt_app (byt_flat fun x hx => voBc_byt (h.vs x hx).2.2.2) (byt_app (bitB_byt ?_) (byt_app (bitB_byt ?_) (bitB_byt ?_)))))))))))))
  · exact byt_flat fun i hi => numB_byt (foldN_lt (h.c i hi))
  · exact byt_app (numB_byt (foldN_lt h.rk)) (byt_app (numB_byt (foldN_lt h.re)) (numB_byt (foldN_lt h.im)))
  · exact byt_app (numB_byt (by omega)) h.d
def encC (o : Mc) : List Int := if chkC o = 0 then mBc o else []
theorem enc_is (m : Ms) : encM m = encC m.con := by unfold encM encC; rw [chkC_is, mB_con]
theorem fit_slot {m : Ms} (h : MsWf m) : -9223372036854775808 ≤ m.slot := by have := h.slot; unfold I64 at this; omega
set_option maxHeartbeats 4000000 in
theorem back7_walk (m : Ms) (a : Option Addr) (cap : Nat) (bs : List Int) (w : World) (H : m.X.X w) (hw : MsWf m) (hl : m.vs.length * 80 ≤ 140737488355328) (HB : Cells w a (bcells bs)) (hb : Byt bs) (hlb : bs.length ≤ 140737488355328) :
    Calls Try.prog 6 #[m.val, .slice a bs.length cap] w (PureAt w (.bool true)) := by
  obtain ⟨B, eB⟩ : ∃ x, x = m.X.and (HX.cl a (bcells bs)) := ⟨_, rfl⟩
  have BX : ∀ {w}, B.X w → m.X.X w ∧ Cells w a (bcells bs) := fun h => by rw [eB] at h; exact h
  refine calls_at (tab_ok _) Try.func6 rfl tLBack7 (ρ := ⟨m.ints, [], [], m.nats ++ [bs.length, cap], m.adrs ++ [a]⟩) (ids := []) (hx := B) rfl (Facts.initq rfl oneNil (by rw [eB]; exact ⟨H, HB⟩) (fun k hk => by rw [eB] at hk; exact hk.elim (Ms.X_sep H k) (cl_sep HB k))) ?_
  refine node_P ⟨[], [true], [], [], []⟩ #[] (.bool true) (by intros; kernel_rfl) (by intros; kernel_rfl) (by kernel_rfl) (by kernel_rfl) (by kernel_rfl) oneNil (fun ids w2 hp hf => head7_any w2) ?_
  refine br_F false (by kernel_rfl) rfl ?_
  refine node_cpm rfl m hw.fit hl hw.dl (fun ids w2 hp hf => (BX hf.x).1) (by intros; kernel_rfl) (by intros; kernel_rfl) (by kernel_rfl) (by kernel_rfl) (by intros; kernel_rfl) ?_
  intro y hy fy
  have hyw := hw.of hy
  obtain ⟨e0, ee0⟩ : ∃ x, x = chkC m.con := ⟨_, rfl⟩
  obtain ⟨eb, eeb⟩ : ∃ x, x = encC m.con := ⟨_, rfl⟩
  refine node_enc rfl y hyw eb e0 (by rw [enc_is, hy, eeb]) (by rw [chkC_is, hy, ee0]) (fun ids w2 hp hf => R_X hf.x.2) (by intros; kernel_rfl) (by intros; kernel_rfl) (by kernel_rfl) (by kernel_rfl) (by intros; kernel_rfl) ?_
  intro a1 c1 _ _
  refine node_cpm rfl m hw.fit hl hw.dl (fun ids w2 hp hf => (BX hf.x.1.1).1) (by intros; kernel_rfl) (by intros; kernel_rfl) (by kernel_rfl) (by kernel_rfl) (by intros; kernel_rfl) ?_
  intro z hz fz
  have hzw := hw.of hz
  refine node_PI ⟨[e0], [], [], [], []⟩ (fun _ => #[z.val]) (.int .i64 e0) (by intros; kernel_rfl) (by intros; kernel_rfl) (by kernel_rfl) (by kernel_rfl) (by kernel_rfl) oneNil (fun ids w2 hp hf => by rw [ee0, ← hz, ← chkC_is]; exact mchk_any z w2 (R_X hf.x.2) hzw.fit (fit_slot hzw)) ?_
  refine br_F (e0 != e0) (by kernel_rfl) (by simp) ?_
  obtain ⟨E, eE⟩ : ∃ x, x = ((B.and y.R).and (frow a1 c1 eb)).and z.R := ⟨_, rfl⟩
  rw [← eE]
  have EB : ∀ {w}, E.X w → m.X.X w ∧ Cells w a (bcells bs) := fun h => by rw [eE] at h; exact BX h.1.1.1
  have ER : ∀ {w}, E.X w → (frow a1 c1 eb).X w := fun h => by rw [eE] at h; exact h.1.2
  refine ⟨fun vs hx => vs = ⟨[], [], [], [], []⟩ ∧ E = hx, ?_, ?_⟩
  · refine br_B (e0 == 0) (by kernel_rfl) (fun h0 => ?_) (fun h0 => again_V ⟨[], [], [], [], []⟩ rfl (by intros; kernel_rfl) E (fun w2 ids hf => ⟨hf.x, hf.sep⟩) ⟨rfl, rfl⟩)
    have h0 : chkC m.con = 0 := by rw [← ee0]; simpa using h0
    have e2 : eb = mBc m.con := by rw [eeb]; exact if_pos h0
    obtain ⟨k1, k2, k3⟩ := mc_back hw.con h0
    rw [← e2] at k1 k2 k3
    refine node_dec rfl (fun _ => a1) c1 eb (by rw [e2]; exact mBc_byt hw.con) (by omega) 0 k1 (fun ids w2 hp hf => frow_cells (ER hf.x)) (by intros; kernel_rfl) (by intros; kernel_rfl) (by kernel_rfl) (by kernel_rfl) (by intros; kernel_rfl) ?_
    intro d hd _
    have hd : d.con = m.con := by rw [hd]; unfold decC7; rw [if_pos k1, k2]
    have hdw := hw.of hd
    refine br_F false (by kernel_rfl) rfl ?_
    refine node_PI ⟨[], [true], [], [], []⟩ (fun _ => #[d.val, m.val]) (.bool true) (by intros; kernel_rfl) (by intros; kernel_rfl) (by kernel_rfl) (by kernel_rfl) (by kernel_rfl) oneNil (fun ids w2 hp hf => by
      have := rsame7_any d m w2 (R_X hf.x.2) (EB hf.x.1).1 hdw hw
      rw [mcSame_t hd] at this
      exact this) ?_
    refine br_F false (by kernel_rfl) rfl ?_
    exact again_V ⟨[], [], [], [], []⟩ rfl (by intros; kernel_rfl) E (fun w2 ids hf => ⟨hf.x.1, fun k hk => hf.sep k (Or.inl hk)⟩) ⟨rfl, rfl⟩
  rintro vs hx hcnt ⟨rfl, rfl⟩
  refine node_newo (V := id) (bs := bs) #[.slice a bs.length cap] (fun a' c' => ⟨[], [], [], [bs.length, c'], [a']⟩) (by intros; kernel_rfl) (fun ids w2 hp hf => copyb_own a cap bs w2 (EB hf.x).2 hlb) (by intros; kernel_rfl) (by kernel_rfl) (by kernel_rfl) (by intros; kernel_rfl) (fun _ _ => oneNil) ?_
  intro a3 c3 _ _
  obtain ⟨de, ede⟩ : ∃ x, x = decE7 bs := ⟨_, rfl⟩
  refine node_dec rfl (fun _ => a3) c3 bs hb hlb de ede.symm (fun ids w2 hp hf => frow_cells hf.x.2) (by intros; kernel_rfl) (by intros; kernel_rfl) (by kernel_rfl) (by kernel_rfl) (by intros; kernel_rfl) ?_
  intro d hd _
  refine br_B (de != 0) (by kernel_rfl) (fun h1 => ?_) (fun h1 => ?_)
  · have h1 : ¬ decE7 bs = 0 := by rw [← ede]; simpa using h1
    have hd : d.con = mz.con := by rw [hd]; exact if_neg h1
    have hdw := mz_wf.of hd
    refine node_PI ⟨[], [true], [], [], []⟩ (fun _ => #[d.val, mz.val]) (.bool true) (by intros; kernel_rfl) (by intros; kernel_rfl) (by kernel_rfl) (by kernel_rfl) (by kernel_rfl) oneNil (fun ids w2 hp hf => by
      have := rsame7_any d mz w2 (R_X hf.x.2) (mz_X w2) hdw mz_wf
      rw [mcSame_t hd] at this
      exact this) ?_
    exact pure_done (by intros; kernel_rfl)
  · have h1 : decE7 bs = 0 := by rw [← ede]; simpa using h1
    have hd : d.con = rdMc bs := by rw [hd]; exact if_pos h1
    obtain ⟨k1, k2⟩ := mc_fore hb h1
    have hdw : MsWf d := McWf.ms (by rw [hd]; exact rdMc_wf hb hlb)
    refine node_enc rfl d hdw bs 0 (by rw [enc_is, hd]; unfold encC; rw [if_pos k1, k2]) (by rw [chkC_is, hd, k1]) (fun ids w2 hp hf => R_X hf.x.2) (by intros; kernel_rfl) (by intros; kernel_rfl) (by kernel_rfl) (by kernel_rfl) (by intros; kernel_rfl) ?_
    intro a4 c4 _ _
    refine br_T true (by kernel_rfl) rfl ?_
    refine node_PI ⟨[], [true], [], [], []⟩ (fun _ => #[.slice a4 bs.length c4, .slice a bs.length cap]) (.bool true) (by intros; kernel_rfl) (by intros; kernel_rfl) (by kernel_rfl) (by kernel_rfl) (by kernel_rfl) oneNil (fun ids w2 hp hf => by
      have := sameb_any a4 c4 bs a cap bs w2 (frow_cells hf.x.2) (EB hf.x.1.1.1).2 hlb
      rw [decide_eq_true rfl] at this
      exact this) ?_
    exact pure_done (by intros; kernel_rfl)
theorem back7_args (x : Dat) (a : Option Addr) (cap : Nat) (ds : List Dat) (w : World) (hx : x.In Try.prog w 37) (h1 : Cells w a (Dat.cellsAll ds)) (h2 : ∀ d ∈ ds, d.In Try.prog w 5) (h3 : ds.length ≤ 9223372036854775807) (h4 : ds.length * Try.prog.bytesOf 5 ≤ reachBytes) :
    Calls Try.prog 6 #[.agg x.cells.toArray, .slice a ds.length cap] w (PureAt w (.bool true)) := by
  obtain ⟨m, e, H, hw, hl⟩ := opn_ms hx
  obtain ⟨bs, lbs, ebs, hby⟩ := opn_bytes ds h2
  rw [ebs] at h1
  rw [bytes_u8] at h4
  have hr := reach_is
  rw [ms_arg e, ← lbs]
  exact back7_walk m a cap bs w H hw hl h1 hby (by omega)
end Go.Proofs.Ytadgaefmoobcoaa
