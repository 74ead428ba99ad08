/- Part 21 of the texts of a proof about the given program: what the statement's proof needs of them. -/
import Derived.Test.YtfjiolgdcphjhaaKExecutorRuns20
namespace Go.Proofs.Ytfjiolgdcphjhaa
open Go.ChangeShapes Go.WideShapes Go.ChangeAt Go.RowKit Go.Syn Go.Eng
set_option linter.unusedVariables false
set_option linter.unusedSimpArgs false
set_option maxRecDepth 100000
def tbX (a : Option Addr) (es : List SE) : HX := ⟨fun k => (HX.cl a (secells es)).F k ∨ ∃ e ∈ es, (HX.cl e.a (kcells e.s.kept)).F k, fun w => TbAt w a es, fun w w' h he => ⟨(HX.cl a (secells es)).loc w w' h.row fun k hk => he k (.inl hk), fun e hm => (HX.cl e.a (kcells e.s.kept)).loc w w' (h.each e hm) fun k hk => he k (.inr ⟨e, hm, hk⟩)⟩⟩
def imR (I : Im) (a1 a2 : Option Addr) (es : List SE) : HX := (HX.cl a1 (I.mem.map (Value.int .i64))).and (tbX a2 es)
theorem tbX_lt {a : Option Addr} {es : List SE} {w : World} (h : TbAt w a es) : ∀ k, (tbX a es).F k → k < w.heap.size := fun k hk => hk.elim (cl_sep h.row k) (fun ⟨e, hm, hk⟩ => cl_sep (h.each e hm) k hk)
theorem imR_lt {I : Im} {a1 a2 : Option Addr} {es : List SE} {w : World} (h : (imR I a1 a2 es).X w) : ∀ k, (imR I a1 a2 es).F k → k < w.heap.size := fun k hk => hk.elim (cl_sep h.1 k) (tbX_lt h.2 k)
theorem imR_of {I : Im} {a1 a2 : Option Addr} {c2 : Nat} {es : List SE} {w : World} (h : (imX I a1 a2 c2 es).X w) : (imR I a1 a2 es).X w ∧ ∀ k, (imR I a1 a2 es).F k → (imX I a1 a2 c2 es).F k := by
  refine ⟨⟨h.1, tabR_at h.2⟩, ?_⟩
  rintro k (hk | hk | ⟨e, hm, hk⟩)
  · exact .inl hk
  · exact .inr (.inr ((rw_cl h.2.2).2 k hk))
  · exact .inr (.inl ⟨e, hm, (rw_cl (h.2.1 e hm)).2 k hk⟩)
structure ImBig (I : Im) : Prop where
  mem : ∀ x ∈ I.mem, I64 x
  len : I.mem.length * 8 ≤ 140737488351232
  reg : I.regs.length = 16
  tb : I.tb.length * 40 ≤ 140737488351232
  kept : ∀ s ∈ I.tb, s.kept.length * 32 ≤ 140737488351232
theorem imOk.big {I : Im} (h : imOk I) : ImBig I := ⟨h.2.2, by have := h.1.fit.1; omega, h.2.1, by have := h.1.fit.2; omega, fun s hs => by have := (h.1.tb.each s hs).len; omega⟩
theorem ImBig.at_ {I : Im} (h : ImBig I) {a1 a2 : Option Addr} {es : List SE} {w : World} (he : es.map SE.s = I.tb) (hX : (imR I a1 a2 es).X w) : ImAt w I a1 a2 es :=
  ⟨he, Ints.of_cells (by have := h.len; omega) h.mem hX.1, hX.2, h.reg⟩
theorem ImBig.kept' {I : Im} (h : ImBig I) {es : List SE} (he : es.map SE.s = I.tb) : ∀ e ∈ es, e.s.kept.length * 32 ≤ 140737488351232 := fun e hm => h.kept e.s (by rw [← he]; exact List.mem_map_of_mem hm)
theorem exec_zero {I : Im} {slot : Int} {v : Vl} (h : (execV I slot v).e = 0) : VI I ∧ slot = I.sl + 1 ∧ slot ≤ 1099511627776 ∧ (v.k = 2 → I.ep < 1099511627776) ∧ valE v = 0 := by
  unfold execV at h
  by_cases h1 : validI I = false
  · rw [if_pos h1] at h; cases h
  rw [if_neg h1] at h
  by_cases h2 : slot ≠ I.sl + 1 ∨ 1099511627776 < slot ∨ (v.k = 2 ∧ 1099511627776 ≤ I.ep)
  · rw [if_pos h2] at h; cases h
  rw [if_neg h2] at h
  simp only [not_or, Classical.not_not] at h2
  by_cases h3 : valE v ≠ 0
  · rw [if_pos h3] at h; exact absurd h h3
  refine ⟨(validI_iff I).1 (by simpa using h1), h2.1, by omega, fun q => ?_, by simpa using h3⟩
  have := h2.2.2
  exact Classical.byContradiction fun z => this ⟨q, by omega⟩
theorem im0_big : ImBig im0 := ⟨fun x h => (by cases h), by decide, rfl, by decide, fun s h => (by cases h)⟩
theorem exec_big {I : Im} (hI : ImBig I) (slot : Int) (v : Vl) (hn : ∀ x ∈ v.ns, I64 x) : ImBig (execV I slot v).i ∧ (execV I slot v).an.length ≤ 8 ∧ ((execV I slot v).e = 0 → imOk (execV I slot v).i) := by
  by_cases h : (execV I slot v).e = 0
  · obtain ⟨h1, h2, h3, h4, h5⟩ := exec_zero h
    have ok := exec_ok (⟨h1, hI.reg, hI.mem⟩ : imOk I) h2 h3 h4 h5 hn
    refine ⟨ok.ok.big, ?_, fun _ => ok.ok⟩
    rw [ok.len]
    rcases valE_zero h5 with q | q | q
    · rw [q.2.1]; decide
    · rw [q.2.1]; decide
    · exact q.2.1
  · have : (execV I slot v).i = im0 ∧ (execV I slot v).an = [] := by
      unfold execV at h ⊢
      split
      · exact ⟨rfl, rfl⟩
      · split
        · exact ⟨rfl, rfl⟩
        · split
          · exact ⟨rfl, rfl⟩
          · rename_i h1 h2 h3
            rw [if_neg h1, if_neg h2, if_neg h3] at h
            exact absurd rfl h
    rw [this.1, this.2]
    exact ⟨im0_big, by decide, fun q => absurd q h⟩
theorem w64 (x : Int) : I64 (IntKind.i64.wrap x) := by
  have h1 : IntKind.i64.wrap x = (x + 9223372036854775808) % 18446744073709551616 - 9223372036854775808 := by
    simp [IntKind.wrap, IntKind.bits, IntKind.signed]
    split <;> omega
  rw [h1]; unfold I64
  have h2 : ((x + 9223372036854775808) % 18446744073709551616 : Int) < 18446744073709551616 := Int.emod_lt_of_pos _ (by decide)
  have h3 : (0 : Int) ≤ (x + 9223372036854775808) % 18446744073709551616 := Int.emod_nonneg _ (by decide)
  omega
def kpDat (k : KpD) : Dat := .parts [.int .i64 k.seq, .parts [.int .i64 k.kind, .int .i64 k.re, .int .i64 k.im]]
def seDat (e : SE) : Dat := .parts [.int .i64 e.s.no, .int .i64 e.s.ack, .sl e.a e.s.kept.length e.c (e.s.kept.map kpDat)]
theorem kp_cells : ∀ l : List KpD, Dat.cellsAll (l.map kpDat) = kcells l
  | [] => rfl
  | c :: r => by
    show Dat.cellsAll (kpDat c :: r.map kpDat) = c.cells ++ kcells r
    rw [← kp_cells r]; rfl
theorem sedat_cells : ∀ l : List SE, Dat.cellsAll (l.map seDat) = secells l
  | [] => rfl
  | c :: r => by
    show Dat.cellsAll (seDat c :: r.map seDat) = c.cells ++ secells r
    rw [← sedat_cells r]; rfl
theorem opn_i {w : World} {d : Dat} (h : d.In Try.prog w 3) : ∃ k : Int, d = .int .i64 k := by
  obtain ⟨k, rfl, hk⟩ := in_int Try.underlying3 h
  exact ⟨k, rfl⟩
theorem opn_kp {w : World} {d : Dat} (h : d.In Try.prog w 116) : ∃ k : KpD, d = kpDat k ∧ True := by
  obtain ⟨ds, rfl, g⟩ := in_struct Try.underlying116 h
  obtain ⟨d0, r0, rfl, h0, g0⟩ := inEach_cons g
  obtain ⟨d1, r1, rfl, h1, g1⟩ := inEach_cons g0
  obtain rfl := inEach_nil g1
  obtain ⟨es, rfl, f⟩ := in_struct Try.underlying54 h1
  obtain ⟨e0, s0, rfl, k0, f1⟩ := inEach_cons f
  obtain ⟨e1, s1, rfl, k1, f2⟩ := inEach_cons f1
  obtain ⟨e2, s2, rfl, k2, f3⟩ := inEach_cons f2
  obtain rfl := inEach_nil f3
  obtain ⟨x0, rfl⟩ := opn_i h0
  obtain ⟨y0, rfl⟩ := opn_i k0
  obtain ⟨y1, rfl⟩ := opn_i k1
  obtain ⟨y2, rfl⟩ := opn_i k2
  exact ⟨⟨x0, y0, y1, y2⟩, rfl, trivial⟩
theorem opn_se {w : World} {d : Dat} (h : d.In Try.prog w 114) : ∃ e : SE, d = seDat e ∧ (Cells w e.a (kcells e.s.kept) ∧ e.s.kept.length * 32 ≤ 140737488351232) := by
  obtain ⟨ds, rfl, g⟩ := in_struct Try.underlying114 h
  obtain ⟨d0, r0, rfl, h0, g0⟩ := inEach_cons g
  obtain ⟨d1, r1, rfl, h1, g1⟩ := inEach_cons g0
  obtain ⟨d2, r2, rfl, h2, g2⟩ := inEach_cons g1
  obtain rfl := inEach_nil g2
  obtain ⟨x0, rfl⟩ := opn_i h0
  obtain ⟨x1, rfl⟩ := opn_i h1
  obtain ⟨a, cap, es, rfl, q1, q2, q3, q4, q5⟩ := in_slice Try.underlying112 h2
  obtain ⟨l, rfl, _⟩ := list_map_of kpDat (fun _ => True) es fun d hd => opn_kp (q5 d hd)
  rw [List.length_map] at q3 ⊢
  rw [kp_cells] at q4
  have hb : Try.prog.bytesOf 116 = 32 := by kernel_rfl
  have hr : reachBytes = 140737488351232 := by kernel_rfl
  rw [hb, hr] at q3
  exact ⟨⟨⟨x0, x1, l⟩, a, cap⟩, rfl, q4, q3⟩
def rgDat (p : Int × Int) : Dat := .parts [.int .i64 p.1, .int .i64 p.2]
theorem opn_rg {w : World} {d : Dat} (h : d.In Try.prog w 24) : ∃ p : Int × Int, d = rgDat p ∧ True := by
  obtain ⟨ds, rfl, g⟩ := in_struct Try.underlying24 h
  obtain ⟨d0, r0, rfl, h0, g0⟩ := inEach_cons g
  obtain ⟨d1, r1, rfl, h1, g1⟩ := inEach_cons g0
  obtain rfl := inEach_nil g1
  obtain ⟨x0, rfl⟩ := opn_i h0
  obtain ⟨x1, rfl⟩ := opn_i h1
  exact ⟨(x0, x1), rfl, trivial⟩
theorem list8 {α : Type} : ∀ (l : List α), l.length = 8 → ∃ a b c d e f g h, l = [a, b, c, d, e, f, g, h]
  | [a, b, c, d, e, f, g, h], _ => ⟨a, b, c, d, e, f, g, h, rfl⟩
theorem opn_im {w : World} {d : Dat} (h : d.In Try.prog w 28) : ∃ (I : Im) (a1 : Option Addr) (c1 : Nat) (a2 : Option Addr) (c2 : Nat) (es : List SE), d.cells = imC I a1 c1 a2 c2 ∧ ImAt w I a1 a2 es ∧ ImBig I ∧ I64 I.sl := by
  obtain ⟨ds, rfl, g⟩ := in_struct Try.underlying28 h
  obtain ⟨d0, r0, rfl, h0, g0⟩ := inEach_cons g
  obtain ⟨d1, r1, rfl, h1, g1⟩ := inEach_cons g0
  obtain ⟨d2, r2, rfl, h2, g2⟩ := inEach_cons g1
  obtain ⟨d3, r3, rfl, h3, g3⟩ := inEach_cons g2
  obtain ⟨d4, r4, rfl, h4, g4⟩ := inEach_cons g3
  obtain rfl := inEach_nil g4
  obtain ⟨x0, rfl⟩ := opn_i h0
  obtain ⟨x2, rfl, hx2⟩ := opn_int h2
  obtain ⟨a1, c1, ms, rfl, q1, q2, q3, q4, q5⟩ := in_slice Try.underlying22 h1
  obtain ⟨mem, rfl, hmem⟩ := list_map_of (fun n => Dat.int .i64 n) (fun n => I64 n) ms fun d hd => opn_int (q5 d hd)
  obtain ⟨rs, rfl, p1, p2⟩ := in_array Try.underlying25 h3
  obtain ⟨rl, rfl, _⟩ := list_map_of rgDat (fun _ => True) rs fun d hd => opn_rg (p2 d hd)
  rw [List.length_map] at p1
  obtain ⟨r0, r1, r2, r3, r4, r5, r6, r7, rfl⟩ := list8 rl p1
  obtain ⟨a2, c2, ss, rfl, t1, t2, t3, t4, t5⟩ := in_slice Try.underlying26 h4
  obtain ⟨es, rfl, hes⟩ := list_map_of seDat (fun e => Cells w e.a (kcells e.s.kept) ∧ e.s.kept.length * 32 ≤ 140737488351232) ss fun d hd => opn_se (t5 d hd)
  rw [List.length_map] at q3 t3
  rw [dat_ints] at q4
  rw [sedat_cells] at t4
  have hb1 : Try.prog.bytesOf 3 = 8 := by kernel_rfl
  have hb2 : Try.prog.bytesOf 114 = 40 := by kernel_rfl
  have hr : reachBytes = 140737488351232 := by kernel_rfl
  rw [hb1, hr] at q3
  rw [hb2, hr] at t3
  refine ⟨⟨x0, mem, x2, [r0.1, r0.2, r1.1, r1.2, r2.1, r2.2, r3.1, r3.2, r4.1, r4.2, r5.1, r5.2, r6.1, r6.2, r7.1, r7.2], es.map SE.s⟩, a1, c1, a2, c2, es, ?_, ⟨rfl, Ints.of_cells (show mem.length ≤ _ by omega) hmem q4, ⟨t4, fun e he => (hes e he).1⟩, rfl⟩, ⟨hmem, q3, rfl, by rw [List.length_map]; exact t3, fun s hs => ?_⟩, hx2⟩
  · show [Value.int .i64 x0] ++ _ = _
    unfold imC
    rw [List.length_map, List.length_map, List.length_map]
    rfl
  · obtain ⟨e, he, rfl⟩ := List.mem_map.1 hs
    exact (hes e he).2
end Go.Proofs.Ytfjiolgdcphjhaa

namespace Go.Proofs.Ytfjiolgdcphjhaa
open Go.ChangeShapes Go.WideShapes Go.ChangeAt Go.RowKit Go.Syn Go.Eng
set_option linter.unusedVariables false
set_option linter.unusedSimpArgs false
set_option maxRecDepth 100000
def RnI20 (n : Nat) (vs : Vals) (hx : HX) : Prop := ∃ (k : Nat) (I : Im) (a1 : Option Addr) (c1 : Nat) (a2 : Option Addr) (c2 : Nat) (es : List SE) (b1 : Option Addr) (d1 : Nat) (b2 : Option Addr) (d2 : Nat) (fs : List SE), k ≤ n ∧ k ≤ 40 ∧ ImBig I ∧ I64 I.sl ∧ es.map SE.s = I.tb ∧ fs.map SE.s = I.tb ∧
  vs = ⟨(k : Int) :: imI I ++ imI I, [], [], [I.mem.length, c1, I.tb.length, c2, I.mem.length, d1, I.tb.length, d2], [a1, a2, b1, b2]⟩ ∧ hx = (imR I a1 a2 es).and (imR I b1 b2 fs)
set_option maxHeartbeats 8000000 in
theorem runs20_walk (I0 : Im) (a1 : Option Addr) (c1 : Nat) (a2 : Option Addr) (c2 : Nat) (es0 : List SE) (a : Option Addr) (cap : Nat) (xs : List Pv) (skip : Int) (w : World) (H0 : ImAt w I0 a1 a2 es0) (B0 : ImBig I0) (S0 : I64 I0.sl) (H : Cells w a (qcs xs)) (hxs : ∀ p ∈ xs, VlAt w p.v p.a1 p.a2 ∧ ∀ c ∈ p.v.cs, CmFit c) (hnb : ∀ p ∈ xs, p.v.ns.length * 8 ≤ 140737488355328) :
    Calls Try.prog 3 #[imV I0 a1 c1 a2 c2, .slice a xs.length cap, .int .i64 skip] w (PureAt w (.bool true)) := by
  refine calls_at (tab_ok _) Try.func3 rfl tXRuns (ρ := ⟨imI I0 ++ [skip], [], [], [I0.mem.length, c1, I0.tb.length, c2, xs.length, cap], [a1, a2, a]⟩) (ids := []) (hx := HX.nil) (by kernel_rfl) (Facts.initP rfl oneNil) ?_
  have keepV : ∀ {m : Mem} {ρ : Env} {ids : List Nat} {hx : HX} {w2 : World} {R : Ending → World → Prop} {p : Pv}, p ∈ xs → Facts ⟨Try.prog, w, fun _ => False, R⟩ m ρ ids hx w2 → VlAt w2 p.v p.a1 p.a2 := fun hp hf => (hxs _ hp).1.fit.at_ ((vlX _ _ _).loc _ _ (hxs _ hp).1.X fun k hk => hf.chg.block k (vlX_sep (hxs _ hp).1.X k hk) (fun q => q))
  have keep0 : ∀ {m : Mem} {ρ : Env} {ids : List Nat} {hx : HX} {w2 : World} {R : Ending → World → Prop}, Facts ⟨Try.prog, w, fun _ => False, R⟩ m ρ ids hx w2 → ImAt w2 I0 a1 a2 es0 := fun hf => H0.keep (fun k hk => hf.chg.block k hk (fun q => q))
  refine node_P ⟨[], [true], [], [], []⟩ #[] (.bool true) (by intros; kernel_rfl) (by intros; kernel_rfl) (by kernel_rfl) (by kernel_rfl) (by kernel_rfl) oneNil (fun ids w2 hp hf => head20_any w2) ?_
  refine br_f (by kernel_rfl) ?_
  have hk0 := B0.kept' H0.tb
  have hl0 : es0.length * 40 ≤ 140737488351232 := by rw [H0.len]; exact B0.tb
  refine node_im (V := id) (I := I0) (fun ids => #[imV I0 a1 c1 a2 c2]) (fun x1 y1 x2 y2 => ⟨imI I0, [], [], [I0.mem.length, y1, I0.tb.length, y2], [x1, x2]⟩) (by intros; kernel_rfl) (fun ids w2 hp hf => rcopy20_any I0 a1 c1 a2 c2 es0 w2 (keep0 hf) (by have := B0.len; omega) hl0 hk0) (by intros; kernel_rfl) (by kernel_rfl) (by kernel_rfl) (by intros; kernel_rfl) (fun _ _ _ _ => oneNil) ?_
  intro x1 y1 x2 y2 fs0 hm0 hdj0 hsm0 had0 hn0
  have own0 : ∀ {m : Mem} {ρ : Env} {ids : List Nat} {hx : HX} {w2 : World} {R : Ending → World → Prop} (hf : Facts ⟨Try.prog, w, fun _ => False, R⟩ m ρ ids hx w2) (k : Nat), k < w.heap.size → k < w2.heap.size ∧ k ∉ ids := fun hf k hk => ⟨Nat.lt_of_lt_of_le hk hf.chg.size, fun q => by
    rcases hf.own k q with z | z
    · have : w.heap.size ≤ k := z
      omega
    · exact z⟩
  have R0 : (imR I0 a1 a2 es0).X w := ⟨H0.mem.cells, H0.tab⟩
  refine loop_i (RnI20 xs.length) (fun vs => xs.length - (vs.i.headD 0).toNat) (fun ids w2 hp hf => ⟨(imR I0 a1 a2 es0).and (imR I0 x1 x2 fs0), ⟨⟨⟨(keep0 hf).mem.cells, (keep0 hf).tab⟩, (imR_of hf.x.2).1⟩, fun j hj => hj.elim (fun z => own0 hf j (imR_lt R0 j z)) (fun z => hf.sep j (.inr ((imR_of hf.x.2).2 j z)))⟩, 0, I0, a1, c1, a2, c2, es0, x1, y1, x2, y2, fs0, Nat.zero_le _, by decide, B0, S0, H0.tb, hm0, by kernel_rfl, rfl⟩) ?_
  rintro vs hx' hcnt ⟨k, I, e1, g1, e2, g2, es, f1, h1, f2, h2, fs, hkn, hk40, hB, hS, hes, hfs, rfl, rfl⟩
  have hesl : es.length = I.tb.length := by rw [← hes, List.length_map]
  have hfsl : fs.length = I.tb.length := by rw [← hfs, List.length_map]
  have btb := hB.tb
  have bmem := hB.len
  obtain ⟨HM, eHM⟩ : ∃ HM, HM = imR I e1 e2 es := ⟨_, rfl⟩
  obtain ⟨HO, eHO⟩ : ∃ HO, HO = imR I f1 f2 fs := ⟨_, rfl⟩
  have atM : ∀ {w2 : World}, HM.X w2 → ImAt w2 I e1 e2 es := fun h => by rw [eHM] at h; exact hB.at_ hes h
  have atO : ∀ {w2 : World}, HO.X w2 → ImAt w2 I f1 f2 fs := fun h => by rw [eHO] at h; exact hB.at_ hfs h
  rw [← eHM, ← eHO]
  have last : ∀ {L : Stack} {pre : List Nat} {ρ : Env}, ρ = ⟨imI I0 ++ [skip] ++ imI I0 ++ ((k : Int) :: imI I ++ imI I), [true], [], [I0.mem.length, c1, I0.tb.length, c2, xs.length, cap, I0.mem.length, y1, I0.tb.length, y2, I.mem.length, g1, I.tb.length, g2, I.mem.length, h1, I.tb.length, h2], [a1, a2, a, x1, x2, e1, e2, f1, f2]⟩ → (Tree.call 16 [.agg tXRunsb3] tXRunsm16 (.lf (.bool (.var 1))) tXRunsm19 (.call 17 [.agg tXRunsb2] tXRunsm19 (.lf (.bool (.var 2))) tXRunsm20 (.done (.lf (.bool (.eqb (.var 1) (.var 2)))) tXRunsm20))).holds ⟨Try.prog, w, fun _ => False, PureAt w (.bool true)⟩ ρ pre (HM.and HO) L := by
    rintro L pre ρ rfl
    refine node_P ⟨[], [validI I], [], [], []⟩ #[imV I f1 h1 f2 h2] (.bool (validI I)) (by intros; kernel_rfl) (by intros; kernel_rfl) (by kernel_rfl) (by kernel_rfl) (by kernel_rfl) oneNil (fun ids w2 hp hf => xvalid_any I f1 h1 f2 h2 fs w2 (atO hf.x.2) (by omega)) ?_
    refine node_P ⟨[], [validI I], [], [], []⟩ #[imV I e1 g1 e2 g2] (.bool (validI I)) (by intros; kernel_rfl) (by intros; kernel_rfl) (by kernel_rfl) (by kernel_rfl) (by kernel_rfl) oneNil (fun ids w2 hp hf => rvalid20_any I e1 g1 e2 g2 es w2 (atM hf.x.1)) ?_
    exact pure_done (fun ids => Eq.trans (b := .bool (validI I == validI I)) (by kernel_rfl) (by simp))
  by_cases hlt : k < xs.length
  case' neg => exact br_F (decide ((k : Int) < (xs.length : Int))) (by kernel_rfl) (decide_eq_false (by omega)) (last (by kernel_rfl))
  refine br_T (decide ((k : Int) < (xs.length : Int))) (by kernel_rfl) (decide_eq_true (by omega)) ?_
  by_cases hlt6 : k < 40
  case' neg => exact br_F (decide ((k : Int) < 40)) (by kernel_rfl) (decide_eq_false (by omega)) (last (by kernel_rfl))
  refine br_T (decide ((k : Int) < 40)) (by kernel_rfl) (decide_eq_true (by omega)) ?_
  obtain ⟨p, hp⟩ : ∃ p, xs[k]? = some p := ⟨_, List.getElem?_eq_getElem hlt⟩
  have hpm := List.mem_of_getElem? hp
  have hnd : a.isSome = true ∧ (0 : Int) ≤ k ∧ (k : Int) < xs.length := ⟨(pv_part H k 0 p.cells hp (fun j u hj => by rw [Nat.zero_add]; exact hj) (by simp [Pv.cells])).1, by omega, by omega⟩
  have hwk : IntKind.i64.wrap ((k : Int) + 1) = ((k + 1 : Nat) : Int) := by rw [wrap_i64 (by omega)]; omega
  obtain ⟨s1, hs1⟩ : ∃ s1, s1 = (if (k : Int) = skip then IntKind.i64.wrap (I.sl + 2) else IntKind.i64.wrap (I.sl + 1)) := ⟨_, rfl⟩
  have hs1b : I64 s1 := by rw [hs1]; split <;> exact w64 _
  refine ⟨fun vs hx => vs = ⟨[s1], [], [], [], []⟩ ∧ hx = HM.and HO, ?_, ?_⟩
  · by_cases q : (k : Int) = skip
    · refine br_T ((k : Int) == skip) (by kernel_rfl) (by simpa using q) ?_
      exact again_V ⟨[IntKind.i64.wrap (I.sl + 2)], [], [], [], []⟩ rfl (by intros; kernel_rfl) _ (fun w2 ids hf => ⟨hf.x, hf.sep⟩) ⟨by rw [hs1, if_pos q], rfl⟩
    · refine br_F ((k : Int) == skip) (by kernel_rfl) (by simpa using q) ?_
      exact again_V ⟨[IntKind.i64.wrap (I.sl + 1)], [], [], [], []⟩ rfl (by intros; kernel_rfl) _ (fun w2 ids hf => ⟨hf.x, hf.sep⟩) ⟨by rw [hs1, if_neg q], rfl⟩
  rintro vs hx' hcnt2 ⟨rfl, rfl⟩
  refine ⟨fun vs hx => (∃ sl, I64 sl ∧ vs = ⟨[sl], [], [], [], []⟩) ∧ hx = HM.and HO, ?_, ?_⟩
  · refine br_i (fun _ => ?_) (fun _ => br_i (fun _ => ?_) (fun _ => ?_))
    · exact again_V ⟨[I.sl], [], [], [], []⟩ rfl (by intros; kernel_rfl) _ (fun w2 ids hf => ⟨hf.x, hf.sep⟩) ⟨⟨_, hS, rfl⟩, rfl⟩
    · exact again_V ⟨[I.sl], [], [], [], []⟩ rfl (by intros; kernel_rfl) _ (fun w2 ids hf => ⟨hf.x, hf.sep⟩) ⟨⟨_, hS, rfl⟩, rfl⟩
    · exact again_V ⟨[s1], [], [], [], []⟩ rfl (by intros; kernel_rfl) _ (fun w2 ids hf => ⟨hf.x, hf.sep⟩) ⟨⟨_, hs1b, rfl⟩, rfl⟩
  rintro vs hx' hcnt3 ⟨⟨slot, hslot, rfl⟩, rfl⟩
  obtain ⟨R, eR⟩ : ∃ R, R = execV I slot p.v := ⟨_, rfl⟩
  obtain ⟨bR, bRa, bRo⟩ := exec_big hB slot p.v (hxs p hpm).1.n.fits
  rw [← eR] at bR bRa bRo
  refine holds_env (ρ' := ⟨imI I0 ++ [skip] ++ imI I0 ++ ((k : Int) :: imI I ++ imI I) ++ [s1, slot], [true], [], [I0.mem.length, c1, I0.tb.length, c2, xs.length, cap, I0.mem.length, y1, I0.tb.length, y2, I.mem.length, g1, I.tb.length, g2, I.mem.length, h1, I.tb.length, h2], [a1, a2, a, x1, x2, e1, e2, f1, f2]⟩) (by kernel_rfl) ?_
  refine need_k (a.isSome = true ∧ (0 : Int) ≤ k ∧ (k : Int) < xs.length) (by kernel_rfl) hnd ?_
  refine par_i ?_ ?_
  all_goals
    refine node_ld0 (k := ⟨76, 1, 0, 18, 9⟩) ⟨[p.v.k], [], [], [p.v.cs.length, p.c1, p.v.ns.length, p.c2], [p.a1, p.a2]⟩ (.pointer (some (((a.getD ⟨0, 0, none⟩).add (k * 3)).add 0))) p.cells (by intros; kernel_rfl) (by intros; kernel_rfl) (pv_all H k hp) ⟨by kernel_rfl, oneNil⟩ (by kernel_rfl) oneNil ?_
    try refine par_i ?_ ?_
  all_goals
    refine node_ex (R := R) (fun _ => #[imV I e1 g1 e2 g2, .int .i64 slot, vlV p.v p.a1 p.c1 p.a2 p.c2]) (by intros; kernel_rfl) (fun ids w2 hp hf => eR ▸ rexec_any I e1 g1 e2 g2 es slot p.v p.a1 p.c1 p.a2 p.c2 w2 (atM hf.x.1) (keepV hpm hf) hslot (hnb p hpm)) (by intros; kernel_rfl) (by kernel_rfl) (by kernel_rfl) (by intros; kernel_rfl) ?_
    intro m1 n1 m2 n2 es2 oa oc hm2 hdj2 hsm2 hso2 hn2
    refine need_k (a.isSome = true ∧ (0 : Int) ≤ k ∧ (k : Int) < xs.length) (by kernel_rfl) hnd ?_
    refine par_i ?_ ?_
  all_goals
    refine node_ld0 (k := ⟨96, 1, 0, 28, 14⟩) ⟨[p.v.k], [], [], [p.v.cs.length, p.c1, p.v.ns.length, p.c2], [p.a1, p.a2]⟩ (.pointer (some (((a.getD ⟨0, 0, none⟩).add (k * 3)).add 0))) p.cells (by intros; kernel_rfl) (by intros; kernel_rfl) (pv_all H k hp) ⟨by kernel_rfl, oneNil⟩ (by kernel_rfl) oneNil ?_
    try refine par_i ?_ ?_
  all_goals
    refine node_vl (V := id) (v := p.v) (fun _ => #[vlV p.v p.a1 p.c1 p.a2 p.c2]) (fun b1 d1 b2 d2 => ⟨[p.v.k], [], [], [p.v.cs.length, d1, p.v.ns.length, d2], [b1, b2]⟩) (by intros; kernel_rfl) (fun ids w2 hp hf => cpvl_any p.v p.a1 p.c1 p.a2 p.c2 w2 (keepV hpm hf)) (by intros; kernel_rfl) (by kernel_rfl) (by kernel_rfl) (by intros; kernel_rfl) (fun _ _ _ _ => oneNil) ?_
    intro b1 d1 b2 d2 hb1
    try refine par_i ?_ ?_
  all_goals
    refine node_ex (R := R) (fun _ => #[imV I f1 h1 f2 h2, .int .i64 slot, vlV p.v b1 d1 b2 d2]) (by intros; kernel_rfl) (fun ids w2 hp hf => eR ▸ xexec_any I f1 h1 f2 h2 fs slot p.v b1 d1 b2 d2 w2 (atO hf.x.1.1.2) (by omega) (by omega) ((hxs p hpm).1.fit.at_ hf.x.2)) (by intros; kernel_rfl) (by kernel_rfl) (by kernel_rfl) (by intros; kernel_rfl) ?_
    intro q1 r1 q2 r2 es3 oa3 oc3 hm3 hdj3 hsm3 hso3 hn3
    have hes2 : es2.length = R.i.tb.length := by rw [← hm2, List.length_map]
    have hes3 : es3.length = R.i.tb.length := by rw [← hm3, List.length_map]
    have bRt := bR.tb
    have bRl := bR.len
    refine holds_env (ρ' := ⟨imI I0 ++ [skip] ++ imI I0 ++ ((k : Int) :: imI I ++ imI I) ++ [s1, slot, p.v.k] ++ imI R.i ++ [R.e, p.v.k, p.v.k] ++ imI R.i ++ [R.e], [true], [], [I0.mem.length, c1, I0.tb.length, c2, xs.length, cap, I0.mem.length, y1, I0.tb.length, y2, I.mem.length, g1, I.tb.length, g2, I.mem.length, h1, I.tb.length, h2, p.v.cs.length, p.c1, p.v.ns.length, p.c2, R.i.mem.length, n1, R.i.tb.length, n2, R.an.length, oc, p.v.cs.length, p.c1, p.v.ns.length, p.c2, p.v.cs.length, d1, p.v.ns.length, d2, R.i.mem.length, r1, R.i.tb.length, r2, R.an.length, oc3], [a1, a2, a, x1, x2, e1, e2, f1, f2, p.a1, p.a2, m1, m2, oa, p.a1, p.a2, b1, b2, q1, q2, oa3]⟩) (by kernel_rfl) ?_
    refine br_F (R.e != R.e) (by kernel_rfl) (by simp) ?_
    refine node_P ⟨[], [true], [], [], []⟩ #[imV R.i q1 r1 q2 r2, imV R.i m1 n1 m2 n2] (.bool true) (by intros; kernel_rfl) (by intros; kernel_rfl) (by kernel_rfl) (by kernel_rfl) (by kernel_rfl) oneNil (fun ids w2 hp hf => rsame20_any R.i q1 r1 q2 r2 es3 m1 n1 m2 n2 es2 w2 (bR.at_ hm3 (imR_of hf.x.2.1).1) (bR.at_ hm2 (imR_of hf.x.1.1.2.1).1) (by omega) (by omega) (fun e he => by have := bR.kept' hm3 e he; omega)) ?_
    refine br_f (by kernel_rfl) ?_
    refine node_P ⟨[], [true], [], [], []⟩ #[.slice oa3 R.an.length oc3, .slice oa R.an.length oc] (.bool true) (by intros; kernel_rfl) (by intros; kernel_rfl) (by kernel_rfl) (by kernel_rfl) (by kernel_rfl) oneNil (fun ids w2 hp hf => rsameAns_any R.an oa3 oc3 oa oc w2 hf.x.2.2 hf.x.1.1.2.2 (by omega)) ?_
    refine br_f (by kernel_rfl) ?_
    refine node_P ⟨[], [true], [], [], []⟩ #[imV I f1 h1 f2 h2, imV I e1 g1 e2 g2] (.bool true) (by intros; kernel_rfl) (by intros; kernel_rfl) (by kernel_rfl) (by kernel_rfl) (by kernel_rfl) oneNil (fun ids w2 hp hf => rsame20_any I f1 h1 f2 h2 fs e1 g1 e2 g2 es w2 (atO hf.x.1.1.1.2) (atM hf.x.1.1.1.1) (by omega) (by omega) (fun e he => by have := hB.kept' hfs e he; omega)) ?_
    refine br_f (by kernel_rfl) ?_
    by_cases hz : R.e = 0
    · refine br_T (R.e == 0) (by kernel_rfl) (by simpa using hz) ?_
      exact again_W ⟨((k + 1 : Nat) : Int) :: imI R.i ++ imI R.i, [], [], [R.i.mem.length, n1, R.i.tb.length, n2, R.i.mem.length, r1, R.i.tb.length, r2], [m1, m2, q1, q2]⟩ rfl (fun ids => Eq.trans (b := ⟨IntKind.i64.wrap ((k : Int) + 1) :: imI R.i ++ imI R.i, [], [], [R.i.mem.length, n1, R.i.tb.length, n2, R.i.mem.length, r1, R.i.tb.length, r2], [m1, m2, q1, q2]⟩) (by kernel_rfl) (by rw [hwk])) ((imR R.i m1 m2 es2).and (imR R.i q1 q2 es3)) (fun w2 ids hf => ⟨⟨⟨(imR_of hf.x.1.1.2.1).1, (imR_of hf.x.2.1).1⟩, fun j hj => hf.sep j (hj.elim (fun z => .inl (.inl (.inr (.inl ((imR_of hf.x.1.1.2.1).2 j z))))) (fun z => .inr (.inl ((imR_of hf.x.2.1).2 j z))))⟩, ⟨k + 1, R.i, m1, n1, m2, n2, es2, q1, r1, q2, r2, es3, hlt, hlt6, bR, (by have := (bRo hz).1.sl0; have := (bRo hz).1.sl1; unfold I64; omega), hm2, hm3, rfl, rfl⟩, by
        show xs.length - (((k + 1 : Nat) : Int)).toNat < xs.length - ((k : Int)).toNat
        omega⟩)
    · refine br_F (R.e == 0) (by kernel_rfl) (by simpa using hz) ?_
      exact again_V ⟨((k + 1 : Nat) : Int) :: imI I ++ imI I, [], [], [I.mem.length, g1, I.tb.length, g2, I.mem.length, h1, I.tb.length, h2], [e1, e2, f1, f2]⟩ rfl (fun ids => Eq.trans (b := ⟨IntKind.i64.wrap ((k : Int) + 1) :: imI I ++ imI I, [], [], [I.mem.length, g1, I.tb.length, g2, I.mem.length, h1, I.tb.length, h2], [e1, e2, f1, f2]⟩) (by kernel_rfl) (by rw [hwk])) (HM.and HO) (fun w2 ids hf => ⟨hf.x.1.1.1, fun j hj => hf.sep j (.inl (.inl (.inl hj)))⟩) ⟨⟨k + 1, I, e1, g1, e2, g2, es, f1, h1, f2, h2, fs, hlt, hlt6, hB, hS, hes, hfs, rfl, by rw [eHM, eHO]⟩, by
        show xs.length - (((k + 1 : Nat) : Int)).toNat < xs.length - ((k : Int)).toNat
        omega⟩
theorem im_arg {d : Dat} {I : Im} {a1 : Option Addr} {c1 : Nat} {a2 : Option Addr} {c2 : Nat} (h : d.cells = imC I a1 c1 a2 c2) : Value.agg d.cells.toArray = imV I a1 c1 a2 c2 := by rw [h]; rfl
theorem pvs_ns {w : World} {xs : List Pv} (h : ∀ p ∈ xs, VlAt w p.v p.a1 p.a2 ∧ ∀ c ∈ p.v.cs, CmFit c) : ∀ p ∈ xs, p.v.ns.length * 8 ≤ 140737488355328 := fun p hp => by have := (h p hp).1.l2; omega
theorem runs20_args (x : Dat) (a : Option Addr) (cap : Nat) (ds : List Dat) (skip : Int) (w : World) (hx : x.In Try.prog w 28) (hC : Cells w a (Dat.cellsAll ds)) (hds : ∀ d ∈ ds, d.In Try.prog w 37) (hl : ds.length ≤ 9223372036854775807) (hb : ds.length * Try.prog.bytesOf 37 ≤ reachBytes) (hs : I64 skip) :
    Calls Try.prog 3 #[.agg x.cells.toArray, .slice a ds.length cap, .int .i64 skip] w fun e w' => e = .returned (.bool true) ∧ Below w.heap.size w w' := by
  obtain ⟨I, a1, c1, a2, c2, es, hc, hat, hbig, hs64⟩ := opn_im hx
  obtain ⟨xs, e1, e2, hxs⟩ := opn_pvs ds hds
  rw [im_arg hc]
  rw [e2] at hC
  rw [← e1]
  exact runs20_walk I a1 c1 a2 c2 es a cap xs skip w hat hbig hs64 hC hxs (pvs_ns hxs)
end Go.Proofs.Ytfjiolgdcphjhaa
