/- MsgUnlike. -/
import Derived.Test.YtadgaefmoobcoaaMq
namespace Go.Proofs.Ytadgaefmoobcoaa
open Go.ChangeShapes Go.WideShapes Go.ChangeAt Go.RowKit Go.Syn Go.Eng
set_option linter.unusedVariables false
set_option linter.unusedSimpArgs false
set_option maxRecDepth 100000
abbrev tLUnl7b0 : List LV := [(tVi 87), (tVi 88), (tVi 89), (tVi 90), (tVi 91), (tVi 92), (tVi 93), (tVi 94), (tVi 95), (tVi 96), (tSl 18 36 37), (tSl 19 38 39), (tSl 20 40 41), (tVi 97), (tVi 98), (tVi 99), (tVi 100), (tVi 101), (tVi 102), (tVi 103), (tVi 104), (tVi 105), (tVi 106), (tVi 107), (tSl 21 42 43)]
abbrev tLUnl7b1 : List LV := [(tVi 87), (tVi 88), (tVi 89), (tVi 90), (tVi 91), (tVi 92), (tVi 93), (tVi 94), (tVi 42), (tVi 96), (tSl 18 36 37), (tSl 19 38 39), (tSl 20 40 41), (tVi 97), (tVi 98), (tVi 99), (tVi 100), (tVi 101), (tVi 102), (tVi 103), (tVi 104), (tVi 105), (tVi 106), (tVi 107), (tSl 21 42 43)]
abbrev tLUnl7b2 : List LV := [(tVi 65), (tVi 66), (tVi 67), (tVi 68), (tVi 69), (tVi 70), (tVi 71), (tVi 72), (tVi 73), (tVi 74), (tSl 13 26 27), (tSl 14 28 29), (tSl 15 30 31), (tVi 75), (tVi 76), (tVi 77), (tVi 78), (tVi 79), (tVi 80), (tVi 81), (tVi 82), (tVi 83), (tVi 84), (tVi 85), (tSl 16 32 33)]
abbrev tLUnl7b3 : List LV := [(tVi 43), (tVi 44), (tVi 45), (tVi 46), (tVi 47), (tVi 48), (tVi 49), (tVi 50), (tVi 51), (tVi 52), (tSl 8 16 17), (tSl 9 18 19), (tSl 10 20 21), (tVi 53), (tVi 54), (tVi 55), (tVi 56), (tVi 57), (tVi 58), (tVi 59), (tVi 60), (tVi 61), (tVi 62), (tVi 63), (tSl 11 22 23)]
abbrev tLUnl7b4 : List LV := [(tVi 21), (tVi 22), (tVi 23), (tVi 24), (tVi 25), (tVi 26), (tVi 27), (tVi 28), (tVi 29), (tVi 30), (tSl 4 8 9), (tSl 5 10 11), (tSl 6 12 13), (tVi 31), (tVi 32), (tVi 33), (tVi 34), (tVi 35), (tVi 36), (tVi 37), (tVi 38), (tVi 39), (tVi 40), (tVi 41), (tSl 7 14 15)]
abbrev tLUnl7b5 : List LV := [(tVi 0), (tVi 1), (tVi 2), (tVi 3), (tVi 4), (tVi 5), (tVi 6), (tVi 7), (tVi 8), (tVi 9), (tSl 0 0 1), (tSl 1 2 3), (tSl 2 4 5), (tVi 10), (tVi 11), (tVi 12), (tVi 13), (tVi 14), (tVi 15), (tVi 16), (tVi 17), (tVi 18), (tVi 19), (tVi 20), (tSl 3 6 7)]
abbrev tLUnl7m0 : Mem := ⟨[(37, tLUnl7b5), (37, tLUnl7b4), (37, tLUnl7b0)], ⟨108, 1, 1, 44, 22⟩⟩
abbrev tLUnl7m1 : Mem := ⟨[(37, tLUnl7b5), (37, tLUnl7b4), (37, tLUnl7b0)], ⟨109, 2, 1, 44, 22⟩⟩
abbrev tLUnl7m2 : Mem := ⟨[(37, tLUnl7b5), (37, tLUnl7b4), (37, tLUnl7b0)], ⟨110, 2, 1, 44, 22⟩⟩
abbrev tLUnl7m3 : Mem := ⟨[(37, tLUnl7b5), (37, tLUnl7b4), (37, tLUnl7b0)], ⟨110, 3, 1, 44, 22⟩⟩
abbrev tLUnl7m4 : Mem := ⟨[(37, tLUnl7b5), (37, tLUnl7b4), (37, tLUnl7b0)], ⟨111, 2, 1, 44, 22⟩⟩
abbrev tLUnl7m5 : Mem := ⟨[(37, tLUnl7b5), (37, tLUnl7b4), (37, tLUnl7b1)], ⟨111, 2, 1, 44, 22⟩⟩
abbrev tLUnl7m6 : Mem := ⟨[(37, tLUnl7b5), (37, tLUnl7b4)], ⟨64, 1, 0, 24, 12⟩⟩
abbrev tLUnl7m7 : Mem := ⟨[(37, tLUnl7b5), (37, tLUnl7b4)], ⟨65, 1, 0, 26, 13⟩⟩
abbrev tLUnl7m8 : Mem := ⟨[(37, tLUnl7b5), (37, tLUnl7b4)], ⟨86, 1, 0, 34, 17⟩⟩
abbrev tLUnl7m9 : Mem := ⟨[(37, tLUnl7b5), (37, tLUnl7b4)], ⟨87, 1, 0, 36, 18⟩⟩
abbrev tLUnl7m10 : Mem := ⟨[(37, tLUnl7b5), (37, tLUnl7b4)], ⟨87, 2, 0, 36, 18⟩⟩
abbrev tLUnl7m11 : Mem := ⟨[(37, tLUnl7b5), (37, tLUnl7b4)], ⟨87, 3, 0, 36, 18⟩⟩
abbrev tLUnl7m12 : Mem := ⟨[(37, tLUnl7b5), (37, tLUnl7b4)], ⟨43, 1, 0, 16, 8⟩⟩
set_option maxRecDepth 100000 in
theorem tLUnl7 : (runF ⟨tt, fns, { joins := [(7, ⟨[], []⟩), (14, ⟨[(13, .bool)], []⟩)], loops := [(13, ⟨[(13, .bool), (14, .int .i64)], []⟩)] }⟩ (Try.f7.body.getD .skip) Try.f7.results.toList (entry Try.f7.ntmps [.agg [.int .i64 (.var 0), .int .i64 (.var 1), .int .i64 (.var 2), .int .i64 (.var 3), .int .i64 (.var 4), .int .i64 (.var 5), .int .i64 (.var 6), .int .i64 (.var 7), .int .i64 (.var 8), .int .i64 (.var 9), .sl 0 (.var 0) (.var 1), .sl 1 (.var 2) (.var 3), .sl 2 (.var 4) (.var 5), .int .i64 (.var 10), .int .i64 (.var 11), .int .i64 (.var 12), .int .i64 (.var 13), .int .i64 (.var 14), .int .i64 (.var 15), .int .i64 (.var 16), .int .i64 (.var 17), .int .i64 (.var 18), .int .i64 (.var 19), .int .i64 (.var 20), .sl 3 (.var 6) (.var 7)], .agg [.int .i64 (.var 21), .int .i64 (.var 22), .int .i64 (.var 23), .int .i64 (.var 24), .int .i64 (.var 25), .int .i64 (.var 26), .int .i64 (.var 27), .int .i64 (.var 28), .int .i64 (.var 29), .int .i64 (.var 30), .sl 4 (.var 8) (.var 9), .sl 5 (.var 10) (.var 11), .sl 6 (.var 12) (.var 13), .int .i64 (.var 31), .int .i64 (.var 32), .int .i64 (.var 33), .int .i64 (.var 34), .int .i64 (.var 35), .int .i64 (.var 36), .int .i64 (.var 37), .int .i64 (.var 38), .int .i64 (.var 39), .int .i64 (.var 40), .int .i64 (.var 41), .sl 7 (.var 14) (.var 15)], .lf (.int .i64 (.var 42))] [] ⟨43, 0, 0, 16, 8⟩)) =
  (.call 9 [] ⟨[(37, tLUnl7b5), (37, tLUnl7b4)], ⟨43, 0, 0, 16, 8⟩⟩ (.lf (.bool (.var 0))) tLUnl7m12 (.br (.not (.var 0)) (.done (.lf (.bool (.lit .false))) tLUnl7m12) (.call 11 [(.agg tLUnl7b5)] tLUnl7m12 (.agg tLUnl7b3) tLUnl7m6 (.call 16 [(.agg tLUnl7b3)] tLUnl7m6 (.tup [(.false, [(tSl 12 24 25)]), (.false, [(tVi 64)])]) tLUnl7m7 (.call 11 [(.agg tLUnl7b4)] tLUnl7m7 (.agg tLUnl7b2) tLUnl7m8 (.call 16 [(.agg tLUnl7b2)] tLUnl7m8 (.tup [(.false, [(tSl 17 34 35)]), (.false, [(tVi 86)])]) tLUnl7m9 (.join 7 tLUnl7m9 tLUnl7m9 (.br (.cmp .eql (.var 64) (.lit 0)) (.br (.cmp .eql (.var 86) (.lit 0)) (.call 18 [(.lf (tSl 12 24 25)), (.lf (tSl 17 34 35))] tLUnl7m9 (.lf (.bool (.var 1))) tLUnl7m10 (.call 17 [(.agg tLUnl7b5), (.agg tLUnl7b4)] tLUnl7m10 (.lf (.bool (.var 2))) tLUnl7m11 (.br (.not (.eqb (.var 1) (.var 2))) (.done (.lf (.bool (.lit .false))) tLUnl7m11) (.again 7 ⟨[], [], [], [], []⟩ tLUnl7m11)))) (.again 7 ⟨[], [], [], [], []⟩ tLUnl7m9)) (.again 7 ⟨[], [], [], [], []⟩ tLUnl7m9)) (.br (.cmp .neq (.var 64) (.lit 0)) (.done (.lf (.bool (.lit .true))) tLUnl7m9) (.br (.cmp .lss (.var 42) (.lit 1)) (.done (.lf (.bool (.lit .true))) tLUnl7m9) (.br (.cmp .gtr (.var 42) (.lit 1000)) (.done (.lf (.bool (.lit .true))) tLUnl7m9) (.call 11 [(.agg tLUnl7b5)] tLUnl7m9 (.agg tLUnl7b0) ⟨[(37, tLUnl7b5), (37, tLUnl7b4)], ⟨108, 1, 0, 44, 22⟩⟩ (.call 23 [(.lf (tVi 0))] ⟨[(37, tLUnl7b5), (37, tLUnl7b4), (37, tLUnl7b0)], ⟨108, 1, 0, 44, 22⟩⟩ (.lf (.val 0)) tLUnl7m0 (.loop 13 ⟨[(.lit 0)], [(.lit .false)], [], [], []⟩ tLUnl7m0 tLUnl7m1 (.gen (.call ⟨(.builtin .len), #[(.tmp 60)], #[9]⟩) 3 [(60, (.lf (.val 0)))] tLUnl7m1 (.some (.lf (tVi 109))) tLUnl7m2 (.br (.cmp .lss (.var 108) (.var 109)) (.join 14 tLUnl7m2 tLUnl7m3 (.br (.var 1) (.again 14 ⟨[], [(.lit .true)], [], [], []⟩ tLUnl7m2) (.gen (.index 9 (.tmp 67) (.tmp 68)) 5 [(67, (.lf (.val 0))), (68, (.lf (tVi 108)))] tLUnl7m2 (.some (.lf (.int .u8 (.var 110)))) tLUnl7m4 (.again 14 ⟨[], [(.cmp .eql (.var 110) (.lit 116))], [], [], []⟩ tLUnl7m4))) (.again 13 ⟨[(.op .add .i64 (.var 108) (.lit 1))], [(.var 2)], [], [], []⟩ tLUnl7m3)) (.br (.var 1) (.done (.lf (.bool (.lit .true))) tLUnl7m2) (.call 10 [(.agg tLUnl7b1)] ⟨[(37, tLUnl7b5), (37, tLUnl7b4), (37, tLUnl7b1)], ⟨110, 2, 1, 44, 22⟩⟩ (.lf (tVi 110)) tLUnl7m5 (.done (.lf (.bool (.cmp .eql (.var 110) (.lit 26)))) tLUnl7m5)))))))))))))))))) := by kernel_rfl
/-- Right messages are told apart by their bytes. -/
theorem mc_inj {o p : Mc} (h1 : McWf o) (h2 : McWf p) (g1 : chkC o = 0) (g2 : chkC p = 0) (h : mBc o = mBc p) : o = p := by
  have a := (mc_back h1 g1).2.1
  have b := (mc_back h2 g2).2.1
  rw [← a, ← b, h]
def Ms.tmd (m : Ms) (n : Int) : Ms := { m with tm := n }
theorem tmd_bad {m : Ms} {n : Int} (h : ub (useI m.k) 8 = false) (hn : n ≠ 0) : chkM (m.tmd n) = 26 := by
  unfold chkM
  rw [if_neg]
  intro q
  have h1 : (ub (useI m.k) 8 || (n == 0)) = true := ((plain_iff (m.tmd n)).1 q).ti
  have h2 := or_z h1 h
  exact hn (by simpa using h2)
set_option maxHeartbeats 4000000 in
theorem unlike7_walk (m o : Ms) (n : Int) (w : World) (H : m.X.X w) (hw : MsWf m) (hl : m.vs.length * 80 ≤ 140737488355328) (H2 : o.X.X w) (hw2 : MsWf o) (hl2 : o.vs.length * 80 ≤ 140737488355328) :
    Calls Try.prog 7 #[m.val, o.val, .int .i64 n] w (PureAt w (.bool true)) := by
  obtain ⟨B, eB⟩ : ∃ x, x = m.X.and o.X := ⟨_, rfl⟩
  have BX : ∀ {w}, B.X w → m.X.X w ∧ o.X.X w := fun h => by rw [eB] at h; exact h
  refine calls_at (tab_ok _) Try.func7 rfl tLUnl7 (ρ := ⟨m.ints ++ (o.ints ++ [n]), [], [], m.nats ++ o.nats, m.adrs ++ o.adrs⟩) (ids := []) (hx := B) rfl (Facts.initq rfl oneNil (by rw [eB]; exact ⟨H, H2⟩) (fun k hk => by rw [eB] at hk; exact hk.elim (Ms.X_sep H k) (Ms.X_sep H2 k))) ?_
  refine node_P ⟨[], [true], [], [], []⟩ #[] (.bool true) (by intros; kernel_rfl) (by intros; kernel_rfl) (by kernel_rfl) (by kernel_rfl) (by kernel_rfl) oneNil (fun ids w2 hp hf => head7_any w2) ?_
  refine br_F false (by kernel_rfl) rfl ?_
  refine node_cpm rfl m hw.fit hl hw.dl (fun ids w2 hp hf => (BX hf.x).1) (by intros; kernel_rfl) (by intros; kernel_rfl) (by kernel_rfl) (by kernel_rfl) (by intros; kernel_rfl) ?_
  intro y hy fy
  have hyw := hw.of hy
  obtain ⟨e0, ee0⟩ : ∃ x, x = chkC m.con := ⟨_, rfl⟩
  obtain ⟨eb, eeb⟩ : ∃ x, x = encC m.con := ⟨_, rfl⟩
  refine node_enc rfl y hyw eb e0 (by rw [enc_is, hy, eeb]) (by rw [chkC_is, hy, ee0]) (fun ids w2 hp hf => R_X hf.x.2) (by intros; kernel_rfl) (by intros; kernel_rfl) (by kernel_rfl) (by kernel_rfl) (by intros; kernel_rfl) ?_
  intro a1 c1 _ _
  refine node_cpm rfl o hw2.fit hl2 hw2.dl (fun ids w2 hp hf => (BX hf.x.1.1).2) (by intros; kernel_rfl) (by intros; kernel_rfl) (by kernel_rfl) (by kernel_rfl) (by intros; kernel_rfl) ?_
  intro z hz fz
  have hzw := hw2.of hz
  obtain ⟨e2, ee2⟩ : ∃ x, x = chkC o.con := ⟨_, rfl⟩
  obtain ⟨eo, eeo⟩ : ∃ x, x = encC o.con := ⟨_, rfl⟩
  refine node_enc rfl z hzw eo e2 (by rw [enc_is, hz, eeo]) (by rw [chkC_is, hz, ee2]) (fun ids w2 hp hf => R_X hf.x.2) (by intros; kernel_rfl) (by intros; kernel_rfl) (by kernel_rfl) (by kernel_rfl) (by intros; kernel_rfl) ?_
  intro a2 c2 _ _
  obtain ⟨E, eE⟩ : ∃ x, x = (((B.and y.R).and (frow a1 c1 eb)).and z.R).and (frow a2 c2 eo) := ⟨_, rfl⟩
  rw [← eE]
  have EB : ∀ {w}, E.X w → m.X.X w ∧ o.X.X w := fun h => by rw [eE] at h; exact BX h.1.1.1.1
  have E1 : ∀ {w}, E.X w → (frow a1 c1 eb).X w := fun h => by rw [eE] at h; exact h.1.1.2
  have E2 : ∀ {w}, E.X w → (frow a2 c2 eo).X w := fun h => by rw [eE] at h; exact h.2
  refine ⟨fun vs hx => vs = ⟨[], [], [], [], []⟩ ∧ E = hx, ?_, ?_⟩
  · refine br_B (e0 == 0) (by kernel_rfl) (fun h0 => ?_) (fun h0 => again_V ⟨[], [], [], [], []⟩ rfl (by intros; kernel_rfl) E (fun w2 ids hf => ⟨hf.x, hf.sep⟩) ⟨rfl, rfl⟩)
    refine br_B (e2 == 0) (by kernel_rfl) (fun h2 => ?_) (fun h2 => again_V ⟨[], [], [], [], []⟩ rfl (by intros; kernel_rfl) E (fun w2 ids hf => ⟨hf.x, hf.sep⟩) ⟨rfl, rfl⟩)
    have h0 : chkC m.con = 0 := by rw [← ee0]; simpa using h0
    have h2 : chkC o.con = 0 := by rw [← ee2]; simpa using h2
    have q1 : eb = mBc m.con := by rw [eeb]; exact if_pos h0
    have q2 : eo = mBc o.con := by rw [eeo]; exact if_pos h2
    have hlen : eb.length ≤ 140737488355328 := by rw [q1]; have := (mc_back hw.con h0).2.2; omega
    obtain ⟨s, s1, s2⟩ : ∃ s, decide (eb = eo) = s ∧ mcSame m.con o.con = s := by
      by_cases q : m.con = o.con
      · exact ⟨true, decide_eq_true (by rw [q1, q2, q]), mcSame_t q⟩
      · exact ⟨false, decide_eq_false (fun h => q (mc_inj hw.con hw2.con h0 h2 (by rw [← q1, ← q2, h]))), mcSame_f q⟩
    refine node_PI ⟨[], [s], [], [], []⟩ (fun _ => #[.slice a1 eb.length c1, .slice a2 eo.length c2]) (.bool s) (by intros; kernel_rfl) (by intros; kernel_rfl) (by kernel_rfl) (by kernel_rfl) (by kernel_rfl) oneNil (fun ids w2 hp hf => by
      have := sameb_any a1 c1 eb a2 c2 eo w2 (frow_cells (E1 hf.x)) (frow_cells (E2 hf.x)) hlen
      rw [s1] at this
      exact this) ?_
    refine node_PI ⟨[], [s], [], [], []⟩ (fun _ => #[m.val, o.val]) (.bool s) (by intros; kernel_rfl) (by intros; kernel_rfl) (by kernel_rfl) (by kernel_rfl) (by kernel_rfl) oneNil (fun ids w2 hp hf => by
      have := rsame7_any m o w2 (EB hf.x).1 (EB hf.x).2 hw hw2
      rw [s2] at this
      exact this) ?_
    refine br_F (!(s == s)) (by kernel_rfl) (by simp) ?_
    exact again_V ⟨[], [], [], [], []⟩ rfl (by intros; kernel_rfl) E (fun w2 ids hf => ⟨hf.x, hf.sep⟩) ⟨rfl, rfl⟩
  rintro vs hx hcnt ⟨rfl, rfl⟩
  refine br_B (e0 != 0) (by kernel_rfl) (fun _ => pure_done (by intros; kernel_rfl)) (fun h0 => ?_)
  refine br_D (p := n < 1) (by kernel_rfl) (fun _ => pure_done (by intros; kernel_rfl)) (fun hn1 => ?_)
  refine br_D (p := n > 1000) (by kernel_rfl) (fun _ => pure_done (by intros; kernel_rfl)) (fun hn2 => ?_)
  refine node_cpm rfl m hw.fit hl hw.dl (fun ids w2 hp hf => (EB hf.x).1) (by intros; kernel_rfl) (by intros; kernel_rfl) (by kernel_rfl) (by kernel_rfl) (by intros; kernel_rfl) ?_
  intro c hc fc
  have hcw := hw.of hc
  obtain ⟨s, es⟩ : ∃ x, x = usesS m.k := ⟨_, rfl⟩
  refine node_P ⟨[], [], [.string s], [], []⟩ #[.int .i64 m.k] (.string s) (by intros; kernel_rfl) (by intros; kernel_rfl) (by kernel_rfl) (by kernel_rfl) (by kernel_rfl) (fun v hv => by simp only [List.mem_singleton] at hv; subst hv; rfl) (fun ids w2 hp hf => by rw [es]; exact ruses_any m.k w2) ?_
  have hck : c.k = m.k := congrArg Mc.k hc
  have hsl : s.data.toList.length ≤ 1000 := by rw [es]; exact uses_len m.k
  obtain ⟨l, el⟩ : ∃ x, x = s.data.toList := ⟨_, rfl⟩
  rw [← el] at hsl
  have hB : (l.any fun b => ((b.toNat : Nat) : Int) == 116) = ub (useI m.k) 8 := by rw [el, es]; exact has_t m.k
  obtain ⟨G, eG⟩ : ∃ x, x = E.and c.R := ⟨_, rfl⟩
  rw [← eG]
  have GC : ∀ {w}, G.X w → c.R.X w := fun h => by rw [eG] at h; exact h.2
  refine ⟨fun vs hx j => ∃ (i : Nat) (t : Bool), j = l.length - i ∧ i ≤ l.length ∧ vs = ⟨[(i : Int)], [t], [], [], []⟩ ∧ (l.any fun b => ((b.toNat : Nat) : Int) == 116) = (t || ((l.drop i).any fun b => ((b.toNat : Nat) : Int) == 116)) ∧ G = hx, fun ids w2 hp hf => ⟨_, l.length, ⟨hf.x, hf.sep⟩, 0, false, rfl, Nat.zero_le _, by kernel_rfl, by rw [Bool.false_or]; rfl, rfl⟩, ?_⟩
  rintro vs hx' j hcnt2 ⟨i, t, rfl, hi, rfl, he, rfl⟩
  refine node_slen ⟨[(l.length : Int)], [], [], [], []⟩ rfl s (by intros; kernel_rfl) Try.underlying9 (fun _ => by rw [← el]; rfl) (by kernel_rfl) (by kernel_rfl) (by kernel_rfl) oneNil ?_
  refine br_D (p := (i : Int) < (l.length : Int)) (by kernel_rfl) (fun hk => ?_) (fun hk => ?_)
  · obtain ⟨b, hb⟩ : ∃ b, l[i]? = some b := ⟨_, List.getElem?_eq_getElem (by omega)⟩
    have hst := any_drop (fun b : UInt8 => ((b.toNat : Nat) : Int) == 116) hb
    refine ⟨fun vs hx => vs = ⟨[], [t || (((b.toNat : Nat) : Int) == 116)], [], [], []⟩ ∧ G = hx, ?_, ?_⟩
    · refine br_B t (by kernel_rfl) (fun ht => again_V ⟨[], [true], [], [], []⟩ rfl (by intros; kernel_rfl) G (fun w2 ids hf => ⟨hf.x, hf.sep⟩) ⟨by rw [ht, Bool.true_or], rfl⟩) (fun ht => ?_)
      refine node_sidx ⟨[((b.toNat : Nat) : Int)], [], [], [], []⟩ s i b (by intros; kernel_rfl) (by intros; kernel_rfl) (by rw [← el]; exact hb) Try.underlying9 (by intros; kernel_rfl) (by kernel_rfl) (by kernel_rfl) (by kernel_rfl) oneNil ?_
      exact again_V ⟨[], [((b.toNat : Nat) : Int) == 116], [], [], []⟩ rfl (by intros; kernel_rfl) G (fun w2 ids hf => ⟨hf.x, hf.sep⟩) ⟨by rw [ht, Bool.false_or], rfl⟩
    rintro vs hx hcnt3 ⟨rfl, rfl⟩
    have hwi : IntKind.i64.wrap ((i : Int) + 1) = ((i + 1 : Nat) : Int) := by rw [wrap_i64 (by omega)]; omega
    exact again_V ⟨[IntKind.i64.wrap ((i : Int) + 1)], [t || (((b.toNat : Nat) : Int) == 116)], [], [], []⟩ rfl (by intros; kernel_rfl) _ (fun w2 ids hf => ⟨hf.x, hf.sep⟩) ⟨l.length - (i + 1), by omega, i + 1, _, rfl, by omega, by rw [hwi], by rw [he, hst, Bool.or_assoc], rfl⟩
  · rw [List.drop_eq_nil_of_le (by omega), List.any_nil, Bool.or_false, hB] at he
    refine br_B t (by kernel_rfl) (fun _ => pure_done (by intros; kernel_rfl)) (fun ht => ?_)
    have hbad : chkM (c.tmd n) = 26 := tmd_bad (by rw [hck, he, ht]) (by omega)
    refine node_PI ⟨[26], [], [], [], []⟩ (fun _ => #[(c.tmd n).val]) (.int .i64 26) (by intros; kernel_rfl) (by intros; kernel_rfl) (by kernel_rfl) (by kernel_rfl) (by kernel_rfl) oneNil (fun ids w2 hp hf => by
      have := mchk_any (c.tmd n) w2 (R_X (GC hf.x)) ⟨hcw.fit.v, hcw.fit.vs⟩ (show -9223372036854775808 ≤ c.slot from fit_slot hcw)
      rw [hbad] at this
      exact this) ?_
    exact pure_done (by intros; kernel_rfl)
theorem unlike7_args (x y : Dat) (n : Int) (w : World) (hx : x.In Try.prog w 37) (hy : y.In Try.prog w 37) (hn : I64 n) :
    Calls Try.prog 7 #[.agg x.cells.toArray, .agg y.cells.toArray, .int .i64 n] w (PureAt w (.bool true)) := by
  obtain ⟨m, e, H, hw, hl⟩ := opn_ms hx
  obtain ⟨o, e2, H2, hw2, hl2⟩ := opn_ms hy
  rw [ms_arg e, ms_arg e2]
  exact unlike7_walk m o n w H hw hl H2 hw2 hl2
end Go.Proofs.Ytadgaefmoobcoaa
