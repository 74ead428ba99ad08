/- Merged from XMo. -/
import Derived.Test.YtadgaefmoobcoaaME
/- Messages as arguments; MsgChecks. -/
namespace Go.Proofs.Ytadgaefmoobcoaa
open Go.ChangeShapes Go.WideShapes Go.ChangeAt Go.RowKit Go.Syn Go.Eng
set_option linter.unusedVariables false
set_option linter.unusedSimpArgs false
set_option maxRecDepth 100000
abbrev tLChecks7b0 : List LV := [(tVi 23), (tVi 24), (tVi 25), (tVi 26), (tVi 27), (tVi 28), (tVi 29), (tVi 30), (tVi 31), (tVi 32), (tSl 5 10 11), (tSl 6 12 13), (tSl 7 14 15), (tVi 33), (tVi 34), (tVi 35), (tVi 36), (tVi 37), (tVi 38), (tVi 39), (tVi 40), (tVi 41), (tVi 42), (tVi 43), (tSl 8 16 17)]
abbrev tLChecks7b1 : List LV := [(tVi 0), (tVi 1), (tVi 2), (tVi 3), (tVi 4), (tVi 5), (tVi 6), (tVi 7), (tVi 8), (tVi 9), (tSl 0 0 1), (tSl 1 2 3), (tSl 2 4 5), (tVi 10), (tVi 11), (tVi 12), (tVi 13), (tVi 14), (tVi 15), (tVi 16), (tVi 17), (tVi 18), (tVi 19), (tVi 20), (tSl 3 6 7)]
abbrev tLChecks7m0 : Mem := ⟨[(37, tLChecks7b1)], ⟨46, 1, 0, 20, 10⟩⟩
abbrev tLChecks7m1 : Mem := ⟨[(37, tLChecks7b1)], ⟨47, 1, 0, 20, 10⟩⟩
abbrev tLChecks7m2 : Mem := ⟨[(37, tLChecks7b1)], ⟨48, 1, 0, 20, 10⟩⟩
abbrev tLChecks7m3 : Mem := ⟨[(37, tLChecks7b1)], ⟨22, 1, 0, 10, 5⟩⟩
abbrev tLChecks7m4 : Mem := ⟨[(37, tLChecks7b1)], ⟨23, 1, 0, 10, 5⟩⟩
abbrev tLChecks7m5 : Mem := ⟨[(37, tLChecks7b1)], ⟨44, 1, 0, 18, 9⟩⟩
abbrev tLChecks7m6 : Mem := ⟨[(37, tLChecks7b1)], ⟨45, 1, 0, 18, 9⟩⟩
abbrev tLChecks7m7 : Mem := ⟨[(37, tLChecks7b1)], ⟨46, 1, 0, 18, 9⟩⟩
set_option maxRecDepth 100000 in
theorem tLChecks7 : (runF ⟨tt, fns, {}⟩ (Try.f3.body.getD .skip) Try.f3.results.toList (entry Try.f3.ntmps [.agg [.int .i64 (.var 0), .int .i64 (.var 1), .int .i64 (.var 2), .int .i64 (.var 3), .int .i64 (.var 4), .int .i64 (.var 5), .int .i64 (.var 6), .int .i64 (.var 7), .int .i64 (.var 8), .int .i64 (.var 9), .sl 0 (.var 0) (.var 1), .sl 1 (.var 2) (.var 3), .sl 2 (.var 4) (.var 5), .int .i64 (.var 10), .int .i64 (.var 11), .int .i64 (.var 12), .int .i64 (.var 13), .int .i64 (.var 14), .int .i64 (.var 15), .int .i64 (.var 16), .int .i64 (.var 17), .int .i64 (.var 18), .int .i64 (.var 19), .int .i64 (.var 20), .sl 3 (.var 6) (.var 7)], .lf (.sl 4 (.var 8) (.var 9)), .lf (.int .i64 (.var 21))] [] ⟨22, 0, 0, 10, 5⟩)) =
  (.call 9 [] ⟨[(37, tLChecks7b1)], ⟨22, 0, 0, 10, 5⟩⟩ (.lf (.bool (.var 0))) tLChecks7m3 (.br (.not (.var 0)) (.done (.lf (.bool (.lit .false))) tLChecks7m3) (.call 10 [(.agg [(tLi 0), (tLi 0), (tLi 0), (tLi 0), (tLi 0), (tLi 0), (tLi 0), (tLi 0), (tLi 0), (tLi 0), .nilsl, .nilsl, .nilsl, (tLi 0), (tLi 0), (tLi 0), (tLi 0), (tLi 0), (tLi 0), (tLi 0), (tLi 0), (tLi 0), (tLi 0), (tLi 0), .nilsl])] tLChecks7m3 (.lf (tVi 22)) tLChecks7m4 (.br (.cmp .neq (.var 22) (.lit 26)) (.done (.lf (.bool (.lit .false))) tLChecks7m4) (.call 11 [(.agg tLChecks7b1)] tLChecks7m4 (.agg tLChecks7b0) tLChecks7m5 (.call 10 [(.agg tLChecks7b0)] tLChecks7m5 (.lf (tVi 44)) tLChecks7m6 (.call 12 [(.agg tLChecks7b1)] tLChecks7m6 (.lf (tVi 45)) tLChecks7m7 (.br (.cmp .eql (.var 44) (.var 45)) (.call 14 [(.lf (tSl 4 8 9))] tLChecks7m7 (.lf (tSl 9 18 19)) tLChecks7m0 (.call 13 [(.lf (tSl 9 18 19)), (.lf (tVi 21))] tLChecks7m0 (.lf (tVi 46)) tLChecks7m1 (.call 15 [(.lf (tSl 4 8 9)), (.lf (tVi 21))] tLChecks7m1 (.lf (tVi 47)) tLChecks7m2 (.done (.lf (.bool (.cmp .eql (.var 46) (.var 47)))) tLChecks7m2)))) (.done (.lf (.bool (.lit .false))) tLChecks7m7))))))))) := by kernel_rfl
theorem opn_bal {w : World} {d : Dat} (h : d.In Try.prog w 23) : ∃ x y : Int, d = .parts [.int .i64 x, .int .i64 y] ∧ I64 x ∧ I64 y := by
  obtain ⟨ds, rfl, g⟩ := in_struct Try.underlying23 h
  obtain ⟨d0, r0, rfl, h0, g0⟩ := inEach_cons g
  obtain ⟨d1, r1, rfl, h1, g1⟩ := inEach_cons g0
  obtain rfl := inEach_nil g1
  obtain ⟨x, rfl, i⟩ := opn_int h0
  obtain ⟨y, rfl, j⟩ := opn_int h1
  exact ⟨x, y, rfl, i, j⟩
theorem opn_res {w : World} {d : Dat} (h : d.In Try.prog w 34) : ∃ x y z : Int, d = .parts [.int .i64 x, .int .i64 y, .int .i64 z] ∧ I64 x ∧ I64 y ∧ I64 z := by
  obtain ⟨ds, rfl, g⟩ := in_struct Try.underlying34 h
  obtain ⟨d0, r0, rfl, h0, g0⟩ := inEach_cons g
  obtain ⟨d1, r1, rfl, h1, g1⟩ := inEach_cons g0
  obtain ⟨d2, r2, rfl, h2, g2⟩ := inEach_cons g1
  obtain rfl := inEach_nil g2
  obtain ⟨x, rfl, i⟩ := opn_int h0
  obtain ⟨y, rfl, j⟩ := opn_int h1
  obtain ⟨z, rfl, l⟩ := opn_int h2
  exact ⟨x, y, z, rfl, i, j, l⟩
theorem opn_vo {w : World} {d : Dat} (h : d.In Try.prog w 59) : ∃ x : Vo Pv, d.cells = voC x ∧ VoWf x ∧ x.v.hx.X w := by
  obtain ⟨ds, rfl, g⟩ := in_struct Try.underlying59 h
  obtain ⟨d0, r0, rfl, h0, g0⟩ := inEach_cons g
  obtain ⟨d1, r1, rfl, h1, g1⟩ := inEach_cons g0
  obtain ⟨d2, r2, rfl, h2, g2⟩ := inEach_cons g1
  obtain rfl := inEach_nil g2
  obtain ⟨s, rfl, i⟩ := opn_int h0
  obtain ⟨x, y, rfl, j, l⟩ := opn_bal h1
  obtain ⟨v, a1, c1, a2, c2, e, H, hk, hc⟩ := opn_vl h2
  refine ⟨⟨s, x, y, ⟨v, a1, c1, a2, c2⟩⟩, ?_, ⟨i, j, l, hk, hc, H.fit⟩, H.X⟩
  show [Value.int .i64 s] ++ (Dat.cellsAll [.int .i64 x, .int .i64 y] ++ (d2.cells ++ [])) = _
  rw [e]; rfl
theorem opn_vos {w : World} : ∀ (ds : List Dat), (∀ d ∈ ds, d.In Try.prog w 59) → ∃ vs : List (Vo Pv), vs.length = ds.length ∧ Dat.cellsAll ds = vocs vs ∧ ∀ x ∈ vs, VoWf x ∧ x.v.hx.X w
  | [], _ => ⟨[], rfl, rfl, fun x hx => by cases hx⟩
  | d :: r, h => by
    obtain ⟨v, e, o, o'⟩ := opn_vo (h d (List.mem_cons_self))
    obtain ⟨vs, l, e2, o2⟩ := opn_vos r (fun d hd => h d (List.mem_cons_of_mem _ hd))
    refine ⟨v :: vs, by simp [l], by rw [Dat.cellsAll, e, e2]; rfl, fun x hx => ?_⟩
    rcases List.mem_cons.1 hx with rfl | hx
    · exact ⟨o, o'⟩
    · exact o2 x hx
theorem vos_X {w : World} {a : Option Addr} {vs : List (Vo Pv)} (h : Cells w a (vocs vs)) (h2 : ∀ x ∈ vs, VoWf x ∧ x.v.hx.X w) : (voX a vs).X w := ⟨h, fun y hy => by
  obtain ⟨x, hx, rfl⟩ := List.mem_map.1 hy
  exact (h2 x hx).2⟩
theorem bytes_vot : Try.prog.bytesOf 59 = 80 := by kernel_rfl
/-- Any message, opened. -/
theorem opn_ms {w : World} {d : Dat} (h : d.In Try.prog w 37) : ∃ m : Ms, d.cells = m.cells ∧ m.X.X w ∧ MsWf m ∧ m.vs.length * 80 ≤ 140737488355328 := by
  obtain ⟨ds, rfl, g⟩ := in_struct Try.underlying37 h
  obtain ⟨d0, r0, rfl, h0, g0⟩ := inEach_cons g
  obtain ⟨d1, r1, rfl, h1, g1⟩ := inEach_cons g0
  obtain ⟨d2, r2, rfl, h2, g2⟩ := inEach_cons g1
  obtain ⟨d3, r3, rfl, h3, g3⟩ := inEach_cons g2
  obtain ⟨d4, r4, rfl, h4, g4⟩ := inEach_cons g3
  obtain ⟨d5, r5, rfl, h5, g5⟩ := inEach_cons g4
  obtain ⟨d6, r6, rfl, h6, g6⟩ := inEach_cons g5
  obtain ⟨d7, r7, rfl, h7, g7⟩ := inEach_cons g6
  obtain ⟨d8, r8, rfl, h8, g8⟩ := inEach_cons g7
  obtain ⟨d9, r9, rfl, h9, g9⟩ := inEach_cons g8
  obtain ⟨d10, r10, rfl, h10, g10⟩ := inEach_cons g9
  obtain ⟨d11, r11, rfl, h11, g11⟩ := inEach_cons g10
  obtain ⟨d12, r12, rfl, h12, g12⟩ := inEach_cons g11
  obtain rfl := inEach_nil g12
  obtain ⟨i0, rfl, j0⟩ := opn_int h0
  obtain ⟨i1, rfl, j1⟩ := opn_int h1
  obtain ⟨i2, rfl, j2⟩ := opn_int h2
  obtain ⟨i3, rfl, j3⟩ := opn_int h3
  obtain ⟨b0, b1, rfl, jb0, jb1⟩ := opn_bal h4
  obtain ⟨i5, rfl, j5⟩ := opn_int h5
  obtain ⟨i6, rfl, j6⟩ := opn_int h6
  obtain ⟨i7, rfl, j7⟩ := opn_int h7
  obtain ⟨v, a1, c1, a2, c2, e8, H8, hk8, hc8⟩ := opn_vl h8
  obtain ⟨av, cv, dv, rfl, lv, mv, bv, Cv, Iv⟩ := in_slice Try.underlying28 h9
  obtain ⟨c, rfl, hc⟩ := opn_cmd h10
  obtain ⟨q0, q1, q2, rfl, jq0, jq1, jq2⟩ := opn_res h11
  obtain ⟨ad, cd, dd, rfl, ld, md, bd, Cd, Id⟩ := in_slice Try.underlying35 h12
  obtain ⟨vs, lvs, evs, ovs⟩ := opn_vos dv Iv
  obtain ⟨bs, lbs, ebs, hbs⟩ := opn_bytes dd Id
  have hr := reach_is
  rw [bytes_vot] at bv
  rw [bytes_u8] at bd
  have hvl : vs.length * 80 ≤ 140737488355328 := by omega
  refine ⟨⟨i0, i1, i2, i3, b0, b1, i5, i6, i7, ⟨v, a1, c1, a2, c2⟩, av, cv, vs, c, q0, q1, q2, ad, cd, bs⟩, ?_, ⟨⟨H8.X, vos_X (by rw [← evs]; exact Cv) ovs⟩, by show Cells w ad (bcells bs); rw [← ebs]; exact Cd⟩, ⟨j0, j1, j2, j3, jb0, jb1, j5, j6, j7, ⟨hk8, hc8, H8.fit⟩, fun x hx => (ovs x hx).1, hc, jq0, jq1, jq2, hbs, by show bs.length ≤ _; omega, by show vs.length ≤ _; omega⟩, hvl⟩
  show [Value.int .i64 i0] ++ ([Value.int .i64 i1] ++ ([Value.int .i64 i2] ++ ([Value.int .i64 i3] ++ (Dat.cellsAll [.int .i64 b0, .int .i64 b1] ++ ([Value.int .i64 i5] ++ ([Value.int .i64 i6] ++ ([Value.int .i64 i7] ++ (d8.cells ++ ([Value.slice av dv.length cv] ++ ((cmDat c).cells ++ (Dat.cellsAll [.int .i64 q0, .int .i64 q1, .int .i64 q2] ++ ([Value.slice ad dd.length cd] ++ [])))))))))))) = _
  rw [e8, ← lvs, ← lbs]; rfl
/-- A message like another's. -/
theorem MsWf.of {m m' : Ms} (h : MsWf m) (e : m'.con = m.con) : MsWf m' := McWf.ms (by rw [e]; exact h.con)
theorem chk_of {m m' : Ms} (e : m'.con = m.con) : chkM m' = chkM m := chk_con e
theorem len_of {m m' : Ms} (e : m'.con = m.con) : m'.vs.length = m.vs.length := con_len e
theorem mz_wf : MsWf mz := by
  refine ⟨i0, i0, i0, i0, i0, i0, i0, i0, i0, vz_wf, (fun x hx => by cases hx), fun i hi => ?_, i0, i0, i0, (fun x hx => by cases hx), by decide, by decide⟩
  simp only [mz, CmD.is, cz, List.mem_cons, List.not_mem_nil, or_false, or_self] at hi
  rw [hi]; exact i0
theorem mz_X (w : World) : mz.X.X w := R_X (mz_R w)
theorem mz_c : chkM mz = 26 := by kernel_rfl
set_option maxHeartbeats 2000000 in
theorem checks_walk (m : Ms) (a : Option Addr) (c : Nat) (xs : List (Vo Pv)) (frm : Int) (w : World) (H : m.X.X w) (hw : MsWf m) (hl : m.vs.length * 80 ≤ 140737488355328) (H2 : (voX a xs).X w) (hx : ∀ x ∈ xs, VoWf x) (hl2 : xs.length * 80 ≤ 140737488355328) (hf : I64 frm) :
    Calls Try.prog 3 #[m.val, .slice a xs.length c, .int .i64 frm] w (PureAt w (.bool true)) := by
  obtain ⟨B, eB⟩ : ∃ x, x = m.X.and (voX a xs) := ⟨_, rfl⟩
  have BX : ∀ {w}, B.X w → m.X.X w ∧ (voX a xs).X w := fun h => by rw [eB] at h; exact h
  have hxf : ∀ x ∈ xs, VlFit x.v.v := fun x h => (hx x h).v.f
  refine calls_at (tab_ok _) Try.func3 rfl tLChecks7 (ρ := ⟨m.ints ++ [frm], [], [], m.nats ++ [xs.length, c], m.adrs ++ [a]⟩) (ids := []) (hx := B) rfl (Facts.initq rfl oneNil (by rw [eB]; exact ⟨H, H2⟩) (fun k hk => by rw [eB] at hk; exact hk.elim (Ms.X_sep H k) (voX_sep H2 k))) ?_
  refine node_P ⟨[], [true], [], [], []⟩ #[] (.bool true) (by intros; kernel_rfl) (by intros; kernel_rfl) (by kernel_rfl) (by kernel_rfl) (by kernel_rfl) oneNil (fun ids w2 hp hf => head7_any w2) ?_
  refine br_F false (by kernel_rfl) rfl ?_
  refine node_P ⟨[26], [], [], [], []⟩ #[mz.val] (.int .i64 26) (by intros; kernel_rfl) (by intros; kernel_rfl) (by kernel_rfl) (by kernel_rfl) (by kernel_rfl) oneNil (fun ids w2 hp hf => by have := mchk_any mz w2 (mz_X w2) mz_wf.fit (by decide); rw [mz_c] at this; exact this) ?_
  refine br_F false (by kernel_rfl) rfl ?_
  refine node_cpm rfl m hw.fit hl hw.dl (fun ids w2 hp hf => (BX hf.x).1) (by intros; kernel_rfl) (by intros; kernel_rfl) (by kernel_rfl) (by kernel_rfl) (by intros; kernel_rfl) ?_
  intro y hy fy
  have hyw := hw.of hy
  refine node_PI ⟨[chkM m], [], [], [], []⟩ (fun _ => #[y.val]) (.int .i64 (chkM m)) (by intros; kernel_rfl) (by intros; kernel_rfl) (by kernel_rfl) (by kernel_rfl) (by kernel_rfl) oneNil (fun ids w2 hp hf => by rw [← chk_of hy]; exact mchk_any y w2 (R_X hf.x.2) hyw.fit (by have := hyw.slot; unfold I64 at this; omega)) ?_
  refine node_PI ⟨[chkM m], [], [], [], []⟩ (fun _ => #[m.val]) (.int .i64 (chkM m)) (by intros; kernel_rfl) (by intros; kernel_rfl) (by kernel_rfl) (by kernel_rfl) (by kernel_rfl) oneNil (fun ids w2 hp hf => rmchk_any m w2 (BX hf.x.1).1 hw.fit (fun x h => (hw.vs x h).s)) ?_
  refine br_T (chkM m == chkM m) (by kernel_rfl) (by simp) ?_
  refine node_out (fun _ => #[.slice a xs.length c]) (fun vs h' => ∃ (b : Option Addr) (d : Nat) (ys : List (Vo Pv)), vlsOf ys = vlsOf xs ∧ vs = ⟨[], [], [], [ys.length, d], [b]⟩ ∧ h' = (voAll ys).and (vrow b d ys)) (by intros; kernel_rfl) (fun ids w2 hp hf => ?_) (by kernel_rfl) (by kernel_rfl) ?_ ?_
  · refine (cpvs7_any a c xs w2 (BX hf.x.1).2 hxf hl2).mono ?_
    rintro e w' ⟨b, d, ys, rfl, g1, g2, g3, g4⟩
    exact ⟨_, _, ⟨b, d, ys, g1, rfl, rfl⟩, rfl, g2, g3, g4⟩
  · rintro vs h' ⟨b, d, ys, _, rfl, rfl⟩
    exact ⟨by kernel_rfl, oneNil⟩
  rintro vs h' ⟨b, d, ys, hys, rfl, rfl⟩ fv
  have hyf : ∀ x ∈ ys, VlFit x.v.v := fun x h => by
    have : Vo.map Pv.v x ∈ vlsOf xs := by rw [← hys]; exact List.mem_map.2 ⟨x, h, rfl⟩
    obtain ⟨z, hz, e⟩ := List.mem_map.1 this
    have e2 : z.v.v = x.v.v := congrArg (fun q : Vo Vl => q.v) e
    rw [← e2]; exact hxf z hz
  have hyX : ∀ {w}, ((voAll ys).and (vrow b d ys)).X w → (voX b ys).X w := fun h => ⟨rw_cells h.2, fun q hq => by
    obtain ⟨x, hx, rfl⟩ := List.mem_map.1 hq
    have := h.1 _ (List.mem_map.2 ⟨x, hx, rfl⟩)
    exact ⟨rw_cells this.1, rw_cells this.2⟩⟩
  have hf0 : -9223372036854775808 ≤ frm := by unfold I64 at hf; omega
  refine node_PI ⟨[chkVs frm (vlsOf xs)], [], [], [], []⟩ (fun _ => #[.slice b ys.length d, .int .i64 frm]) (.int .i64 (chkVs frm (vlsOf xs))) (by intros; kernel_rfl) (by intros; kernel_rfl) (by kernel_rfl) (by kernel_rfl) (by kernel_rfl) oneNil (fun ids w2 hp hf => by rw [← hys]; exact chkvs_any d frm w2 (hyX hf.x.2) hyf hf0) ?_
  refine node_PI ⟨[chkVs frm (vlsOf xs)], [], [], [], []⟩ (fun _ => #[.slice a xs.length c, .int .i64 frm]) (.int .i64 (chkVs frm (vlsOf xs))) (by intros; kernel_rfl) (by intros; kernel_rfl) (by kernel_rfl) (by kernel_rfl) (by kernel_rfl) oneNil (fun ids w2 hp hf => rchkvs_any c frm w2 (BX hf.x.1.1).2 hxf (fun x h => (hx x h).s)) ?_
  refine pure_out (fun _ => id) (fun ids => ?_)
  have : (chkVs frm (vlsOf xs) == chkVs frm (vlsOf xs)) = true := by simp
  exact congrArg Value.bool this
theorem ms_arg {d : Dat} {m : Ms} (h : d.cells = m.cells) : Value.agg d.cells.toArray = m.val := by rw [h]; rfl
theorem checks_args (x : Dat) (a : Option Addr) (cap : Nat) (ds : List Dat) (frm : Int) (w : World) (hx : x.In Try.prog w 37) (h1 : Cells w a (Dat.cellsAll ds)) (h2 : ∀ d ∈ ds, d.In Try.prog w 59) (h3 : ds.length ≤ 9223372036854775807) (h4 : ds.length * Try.prog.bytesOf 59 ≤ reachBytes) (hf : I64 frm) :
    Calls Try.prog 3 #[.agg x.cells.toArray, .slice a ds.length cap, .int .i64 frm] w (PureAt w (.bool true)) := by
  obtain ⟨m, e, H, hw, hl⟩ := opn_ms hx
  obtain ⟨vs, lvs, evs, ovs⟩ := opn_vos ds h2
  rw [evs] at h1
  rw [bytes_vot] at h4
  have hr := reach_is
  rw [ms_arg e, ← lvs]
  exact checks_walk m a cap vs frm w H hw hl (vos_X h1 ovs) (fun x h => (ovs x h).1) (by omega) hf
end Go.Proofs.Ytadgaefmoobcoaa
