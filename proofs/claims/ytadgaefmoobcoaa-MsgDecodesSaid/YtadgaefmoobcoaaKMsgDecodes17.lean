/- Part 17 of the texts of a proof about the given program: what the statement's proof needs of them. -/
import Derived.Test.YtadgaefmoobcoaaKMsgDecodes16
namespace Go.Proofs.Ytadgaefmoobcoaa
open Go.ChangeShapes Go.WideShapes Go.ChangeAt Go.RowKit Go.Syn Go.Eng
set_option linter.unusedVariables false
set_option linter.unusedSimpArgs false
set_option maxRecDepth 100000
structure Ms where
  k : Int
  f : Int
  t : Int
  e : Int
  r : Int
  n : Int
  slot : Int
  low : Int
  tm : Int
  p : Pv
  av : Option Addr
  cv : Nat
  vs : List (Vo Pv)
  c : CmD
  rk : Int
  re : Int
  im : Int
  ad : Option Addr
  cd : Nat
  d : List Int
def Ms.ints (m : Ms) : List Int := [m.k, m.f, m.t, m.e, m.r, m.n, m.slot, m.low, m.tm, m.p.v.k, m.c.sess, m.c.seq, m.c.ack, m.c.op.kind, m.c.op.reg, m.c.op.tg, m.c.op.re, m.c.op.im, m.rk, m.re, m.im]
def Ms.nats (m : Ms) : List Nat := [m.p.v.cs.length, m.p.c1, m.p.v.ns.length, m.p.c2, m.vs.length, m.cv, m.d.length, m.cd]
def Ms.adrs (m : Ms) : List (Option Addr) := [m.p.a1, m.p.a2, m.av, m.ad]
def Ms.vals (m : Ms) : Vals := ⟨m.ints, [], [], m.nats, m.adrs⟩
def Ms.cells (m : Ms) : List Value := [.int .i64 m.k, .int .i64 m.f, .int .i64 m.t, .int .i64 m.e, .int .i64 m.r, .int .i64 m.n, .int .i64 m.slot, .int .i64 m.low, .int .i64 m.tm, .int .i64 m.p.v.k, .slice m.p.a1 m.p.v.cs.length m.p.c1, .slice m.p.a2 m.p.v.ns.length m.p.c2, .slice m.av m.vs.length m.cv, .int .i64 m.c.sess, .int .i64 m.c.seq, .int .i64 m.c.ack, .int .i64 m.c.op.kind, .int .i64 m.c.op.reg, .int .i64 m.c.op.tg, .int .i64 m.c.op.re, .int .i64 m.c.op.im, .int .i64 m.rk, .int .i64 m.re, .int .i64 m.im, .slice m.ad m.d.length m.cd]
def Ms.val (m : Ms) : Value := .agg m.cells.toArray
def Ms.X (m : Ms) : HX := (m.p.hx.and (voX m.av m.vs)).and (HX.cl m.ad (bcells m.d))
structure MsFit (m : Ms) : Prop where
  v : VlFit m.p.v
  vs : ∀ x ∈ m.vs, VlFit x.v.v
def cz : CmD := ⟨0, 0, 0, ⟨0, 0, 0, 0, 0⟩⟩
def mz : Ms := ⟨0, 0, 0, 0, 0, 0, 0, 0, 0, pz, none, 0, [], cz, 0, 0, 0, none, 0, []⟩
theorem Ms.X_sep {w : World} {m : Ms} (h : m.X.X w) : ∀ k, m.X.F k → k < w.heap.size := fun k hk => by
  rcases hk with (hk | hk) | hk
  · exact vlX_sep h.1.1 k hk
  · exact voX_sep h.1.2 k hk
  · exact cl_sep h.2 k hk
def useI (k : Int) : Int := if k = 1 then 3 else if k = 2 then 39 else if k = 3 then 1 else if k = 4 then 19 else if k = 5 then 19 else if k = 6 then 11 else if k = 7 then 9 else if k = 8 then 2 else if k = 9 then 18 else if k = 10 then 262 else if k = 12 then 262 else if k = 11 then 6 else if k = 13 then 64 else if k = 14 then 192 else 0
def ub (u i : Int) : Bool := ifn .and .i64 u i != 0
theorem uses_any (k : Int) (w : World) : Calls Try.prog 25 #[.int .i64 k] w (PureAt w (.int .i64 (useI k))) := by
  refine calls_at (tab_ok _) Try.func25 rfl tUses (ρ := ⟨[k], [], [], [], []⟩) (ids := []) rfl (Facts.initP rfl oneNil) ?_
  refine br_D (p := k = 1) (by kernel_rfl) (fun h => pure_done fun _ => by subst h; kernel_rfl) (fun h1 => ?_)
  refine br_D (p := k = 2) (by kernel_rfl) (fun h => pure_done fun _ => by subst h; kernel_rfl) (fun h2 => ?_)
  refine br_D (p := k = 3) (by kernel_rfl) (fun h => pure_done fun _ => by subst h; kernel_rfl) (fun h3 => ?_)
  refine br_D (p := k = 4) (by kernel_rfl) (fun h => pure_done fun _ => by subst h; kernel_rfl) (fun h4 => ?_)
  refine br_D (p := k = 5) (by kernel_rfl) (fun h => pure_done fun _ => by subst h; kernel_rfl) (fun h5 => ?_)
  refine br_D (p := k = 6) (by kernel_rfl) (fun h => pure_done fun _ => by subst h; kernel_rfl) (fun h6 => ?_)
  refine br_D (p := k = 7) (by kernel_rfl) (fun h => pure_done fun _ => by subst h; kernel_rfl) (fun h7 => ?_)
  refine br_D (p := k = 8) (by kernel_rfl) (fun h => pure_done fun _ => by subst h; kernel_rfl) (fun h8 => ?_)
  refine br_D (p := k = 9) (by kernel_rfl) (fun h => pure_done fun _ => by subst h; kernel_rfl) (fun h9 => ?_)
  refine br_D (p := k = 10) (by kernel_rfl) (fun h => pure_done fun _ => by subst h; kernel_rfl) (fun h10 => ?_)
  refine br_D (p := k = 12) (by kernel_rfl) (fun h => pure_done fun _ => by subst h; kernel_rfl) (fun h12 => ?_)
  refine br_D (p := k = 11) (by kernel_rfl) (fun h => pure_done fun _ => by subst h; kernel_rfl) (fun h11 => ?_)
  refine br_D (p := k = 13) (by kernel_rfl) (fun h => pure_done fun _ => by subst h; kernel_rfl) (fun h13 => ?_)
  refine br_D (p := k = 14) (by kernel_rfl) (fun h => pure_done fun _ => by subst h; kernel_rfl) (fun h14 => ?_)
  exact pure_done fun _ => by unfold useI; simp [h1, h2, h3, h4, h5, h6, h7, h8, h9, h10, h12, h11, h13, h14]; kernel_rfl
theorem mwithin_any (x lo hi : Int) (w : World) : Calls Try.prog 26 #[.int .i64 x, .int .i64 lo, .int .i64 hi] w (PureAt w (.bool (decide (lo ≤ x) && decide (x ≤ hi)))) := by
  refine calls_at (tab_ok _) Try.func26 rfl tWithin (ρ := ⟨[x, lo, hi], [], [], [], []⟩) (ids := []) rfl (Facts.initP rfl oneNil) ?_
  by_cases h : lo ≤ x
  · refine br_T (decide (lo ≤ x)) (by kernel_rfl) (decide_eq_true h) ?_
    rw [decide_eq_true h, Bool.true_and]
    exact pure_done (by intros; kernel_rfl)
  · refine br_F (decide (lo ≤ x)) (by kernel_rfl) (decide_eq_false h) ?_
    rw [decide_eq_false h, Bool.false_and]
    exact pure_done (by intros; kernel_rfl)
def Ms.b1 (u : Int) (m : Ms) : Ms := if ub u 1 = true then { m with r := 0, n := 0 } else m
def Ms.b2 (u : Int) (m : Ms) : Ms := if ub u 2 = true then { m with slot := 0 } else m
def Ms.b3 (u : Int) (m : Ms) : Ms := if ub u 4 = true then { m with low := 0 } else m
def Ms.b4 (u : Int) (m : Ms) : Ms := if ub u 8 = true then { m with tm := 0 } else m
def Ms.b5 (u : Int) (m : Ms) : Ms := if ub u 16 = true then { m with p := pz } else m
def Ms.b6 (u : Int) (m : Ms) : Ms := if ub u 32 = true then { m with av := none, cv := 0, vs := [] } else m
def Ms.b7 (u : Int) (m : Ms) : Ms := if ub u 64 = true then { m with c := cz } else m
def Ms.b8 (u : Int) (m : Ms) : Ms := if ub u 128 = true then { m with rk := 0, re := 0, im := 0 } else m
def Ms.b9 (u : Int) (m : Ms) : Ms := if ub u 256 = true then { m with ad := none, cd := 0, d := [] } else m
def Ms.bare (u : Int) (m : Ms) : Ms := Ms.b9 u (Ms.b8 u (Ms.b7 u (Ms.b6 u (Ms.b5 u (Ms.b4 u (Ms.b3 u (Ms.b2 u (Ms.b1 u ({ m with k := 0, f := 0, t := 0, e := 0 })))))))))
theorem bare_any (u : Int) (m : Ms) (w : World) : Calls Try.prog 28 #[m.val, .int .i64 u] w (PureAt w (m.bare u).val) := by
  refine calls_at (tab_ok _) Try.func28 rfl tBare (ρ := ⟨m.ints ++ [u], [], [], m.nats, m.adrs⟩) (ids := []) (hx := HX.nil) rfl (Facts.initP rfl oneNil) ?_
  obtain ⟨m0, e0⟩ : ∃ x, x = ({ m with k := 0, f := 0, t := 0, e := 0 } : Ms) := ⟨_, rfl⟩
  refine ⟨fun vs hx => vs = (Ms.b1 u ({ m with k := 0, f := 0, t := 0, e := 0 } : Ms)).vals ∧ hx = HX.nil, ?_, ?_⟩
  · refine br_B (ub u 1) (by kernel_rfl) (fun h => ?_) (fun h => ?_)
    · exact again_V (Ms.vals { ({ m with k := 0, f := 0, t := 0, e := 0 } : Ms) with r := 0, n := 0 }) rfl (by intros; kernel_rfl) _ (fun w2 ids hf => ⟨hf.x, hf.sep⟩) ⟨by unfold Ms.b1; rw [if_pos h], rfl⟩
    · exact again_V (Ms.vals ({ m with k := 0, f := 0, t := 0, e := 0 } : Ms)) rfl (by intros; kernel_rfl) _ (fun w2 ids hf => ⟨hf.x, hf.sep⟩) ⟨by unfold Ms.b1; rw [if_neg (by rw [h]; decide)], rfl⟩
  rintro vs hx hcnt1 ⟨rfl, rfl⟩
  obtain ⟨m1, e1⟩ : ∃ x, x = Ms.b1 u ({ m with k := 0, f := 0, t := 0, e := 0 } : Ms) := ⟨_, rfl⟩
  rw [← e1]
  refine ⟨fun vs hx => vs = (Ms.b2 u (m1 : Ms)).vals ∧ hx = HX.nil, ?_, ?_⟩
  · refine br_B (ub u 2) (by kernel_rfl) (fun h => ?_) (fun h => ?_)
    · exact again_V (Ms.vals { (m1 : Ms) with slot := 0 }) rfl (by intros; kernel_rfl) _ (fun w2 ids hf => ⟨hf.x, hf.sep⟩) ⟨by unfold Ms.b2; rw [if_pos h], rfl⟩
    · exact again_V (Ms.vals (m1 : Ms)) rfl (by intros; kernel_rfl) _ (fun w2 ids hf => ⟨hf.x, hf.sep⟩) ⟨by unfold Ms.b2; rw [if_neg (by rw [h]; decide)], rfl⟩
  rintro vs hx hcnt2 ⟨rfl, rfl⟩
  obtain ⟨m2, e2⟩ : ∃ x, x = Ms.b2 u (m1 : Ms) := ⟨_, rfl⟩
  rw [← e2]
  refine ⟨fun vs hx => vs = (Ms.b3 u (m2 : Ms)).vals ∧ hx = HX.nil, ?_, ?_⟩
  · refine br_B (ub u 4) (by kernel_rfl) (fun h => ?_) (fun h => ?_)
    · exact again_V (Ms.vals { (m2 : Ms) with low := 0 }) rfl (by intros; kernel_rfl) _ (fun w2 ids hf => ⟨hf.x, hf.sep⟩) ⟨by unfold Ms.b3; rw [if_pos h], rfl⟩
    · exact again_V (Ms.vals (m2 : Ms)) rfl (by intros; kernel_rfl) _ (fun w2 ids hf => ⟨hf.x, hf.sep⟩) ⟨by unfold Ms.b3; rw [if_neg (by rw [h]; decide)], rfl⟩
  rintro vs hx hcnt3 ⟨rfl, rfl⟩
  obtain ⟨m3, e3⟩ : ∃ x, x = Ms.b3 u (m2 : Ms) := ⟨_, rfl⟩
  rw [← e3]
  refine ⟨fun vs hx => vs = (Ms.b4 u (m3 : Ms)).vals ∧ hx = HX.nil, ?_, ?_⟩
  · refine br_B (ub u 8) (by kernel_rfl) (fun h => ?_) (fun h => ?_)
    · exact again_V (Ms.vals { (m3 : Ms) with tm := 0 }) rfl (by intros; kernel_rfl) _ (fun w2 ids hf => ⟨hf.x, hf.sep⟩) ⟨by unfold Ms.b4; rw [if_pos h], rfl⟩
    · exact again_V (Ms.vals (m3 : Ms)) rfl (by intros; kernel_rfl) _ (fun w2 ids hf => ⟨hf.x, hf.sep⟩) ⟨by unfold Ms.b4; rw [if_neg (by rw [h]; decide)], rfl⟩
  rintro vs hx hcnt4 ⟨rfl, rfl⟩
  obtain ⟨m4, e4⟩ : ∃ x, x = Ms.b4 u (m3 : Ms) := ⟨_, rfl⟩
  rw [← e4]
  refine ⟨fun vs hx => vs = (Ms.b5 u (m4 : Ms)).vals ∧ hx = HX.nil, ?_, ?_⟩
  · refine br_B (ub u 16) (by kernel_rfl) (fun h => ?_) (fun h => ?_)
    · exact again_V (Ms.vals { (m4 : Ms) with p := pz }) rfl (by intros; kernel_rfl) _ (fun w2 ids hf => ⟨hf.x, hf.sep⟩) ⟨by unfold Ms.b5; rw [if_pos h], rfl⟩
    · exact again_V (Ms.vals (m4 : Ms)) rfl (by intros; kernel_rfl) _ (fun w2 ids hf => ⟨hf.x, hf.sep⟩) ⟨by unfold Ms.b5; rw [if_neg (by rw [h]; decide)], rfl⟩
  rintro vs hx hcnt5 ⟨rfl, rfl⟩
  obtain ⟨m5, e5⟩ : ∃ x, x = Ms.b5 u (m4 : Ms) := ⟨_, rfl⟩
  rw [← e5]
  refine ⟨fun vs hx => vs = (Ms.b6 u (m5 : Ms)).vals ∧ hx = HX.nil, ?_, ?_⟩
  · refine br_B (ub u 32) (by kernel_rfl) (fun h => ?_) (fun h => ?_)
    · exact again_V (Ms.vals { (m5 : Ms) with av := none, cv := 0, vs := [] }) rfl (by intros; kernel_rfl) _ (fun w2 ids hf => ⟨hf.x, hf.sep⟩) ⟨by unfold Ms.b6; rw [if_pos h], rfl⟩
    · exact again_V (Ms.vals (m5 : Ms)) rfl (by intros; kernel_rfl) _ (fun w2 ids hf => ⟨hf.x, hf.sep⟩) ⟨by unfold Ms.b6; rw [if_neg (by rw [h]; decide)], rfl⟩
  rintro vs hx hcnt6 ⟨rfl, rfl⟩
  obtain ⟨m6, e6⟩ : ∃ x, x = Ms.b6 u (m5 : Ms) := ⟨_, rfl⟩
  rw [← e6]
  refine ⟨fun vs hx => vs = (Ms.b7 u (m6 : Ms)).vals ∧ hx = HX.nil, ?_, ?_⟩
  · refine br_B (ub u 64) (by kernel_rfl) (fun h => ?_) (fun h => ?_)
    · exact again_V (Ms.vals { (m6 : Ms) with c := cz }) rfl (by intros; kernel_rfl) _ (fun w2 ids hf => ⟨hf.x, hf.sep⟩) ⟨by unfold Ms.b7; rw [if_pos h], rfl⟩
    · exact again_V (Ms.vals (m6 : Ms)) rfl (by intros; kernel_rfl) _ (fun w2 ids hf => ⟨hf.x, hf.sep⟩) ⟨by unfold Ms.b7; rw [if_neg (by rw [h]; decide)], rfl⟩
  rintro vs hx hcnt7 ⟨rfl, rfl⟩
  obtain ⟨m7, e7⟩ : ∃ x, x = Ms.b7 u (m6 : Ms) := ⟨_, rfl⟩
  rw [← e7]
  refine ⟨fun vs hx => vs = (Ms.b8 u (m7 : Ms)).vals ∧ hx = HX.nil, ?_, ?_⟩
  · refine br_B (ub u 128) (by kernel_rfl) (fun h => ?_) (fun h => ?_)
    · exact again_V (Ms.vals { (m7 : Ms) with rk := 0, re := 0, im := 0 }) rfl (by intros; kernel_rfl) _ (fun w2 ids hf => ⟨hf.x, hf.sep⟩) ⟨by unfold Ms.b8; rw [if_pos h], rfl⟩
    · exact again_V (Ms.vals (m7 : Ms)) rfl (by intros; kernel_rfl) _ (fun w2 ids hf => ⟨hf.x, hf.sep⟩) ⟨by unfold Ms.b8; rw [if_neg (by rw [h]; decide)], rfl⟩
  rintro vs hx hcnt8 ⟨rfl, rfl⟩
  obtain ⟨m8, e8⟩ : ∃ x, x = Ms.b8 u (m7 : Ms) := ⟨_, rfl⟩
  rw [← e8]
  refine ⟨fun vs hx => vs = (Ms.b9 u (m8 : Ms)).vals ∧ hx = HX.nil, ?_, ?_⟩
  · refine br_B (ub u 256) (by kernel_rfl) (fun h => ?_) (fun h => ?_)
    · exact again_V (Ms.vals { (m8 : Ms) with ad := none, cd := 0, d := [] }) rfl (by intros; kernel_rfl) _ (fun w2 ids hf => ⟨hf.x, hf.sep⟩) ⟨by unfold Ms.b9; rw [if_pos h], rfl⟩
    · exact again_V (Ms.vals (m8 : Ms)) rfl (by intros; kernel_rfl) _ (fun w2 ids hf => ⟨hf.x, hf.sep⟩) ⟨by unfold Ms.b9; rw [if_neg (by rw [h]; decide)], rfl⟩
  rintro vs hx hcnt9 ⟨rfl, rfl⟩
  obtain ⟨m9, e9⟩ : ∃ x, x = Ms.b9 u (m8 : Ms) := ⟨_, rfl⟩
  rw [← e9]
  have : m.bare u = m9 := by rw [e9, e8, e7, e6, e5, e4, e3, e2, e1]; rfl
  rw [this]
  exact pure_done (by intros; kernel_rfl)
def Ms.left (m : Ms) : Bool := (m.r == 0 && m.n == 0) && (m.slot == 0 && (m.low == 0 && (m.tm == 0 && (m.p.v.k == 0 && (decide (m.p.v.cs.length = 0) && (decide (m.p.v.ns.length = 0) && (decide (m.vs.length = 0) && (cmdEq m.c cz && ((m.rk == 0 && (m.re == 0 && m.im == 0)) && decide (m.d.length = 0))))))))))
end Go.Proofs.Ytadgaefmoobcoaa

namespace Go.Proofs.Ytadgaefmoobcoaa
open Go.ChangeShapes Go.WideShapes Go.ChangeAt Go.RowKit Go.Syn Go.Eng
set_option linter.unusedVariables false
set_option linter.unusedSimpArgs false
set_option maxRecDepth 100000
def inB (x lo hi : Int) : Bool := decide (lo ≤ x) && decide (x ≤ hi)
theorem inB_t {x lo hi : Int} : inB x lo hi = true ↔ lo ≤ x ∧ x ≤ hi := by unfold inB; simp
def leastI (u k : Int) : Int := if ub u 48 || (k == 1 || k == 8) then 1 else 0
def plainP (m : Ms) : Bool := (useI m.k != 0) && (inB m.f 0 9 && (inB m.t 0 9 && (inB m.e 0 1099511627776 && ((m.bare (useI m.k)).left && ((!(ub (useI m.k) 2) || inB m.slot (leastI (useI m.k) m.k) 1099511627776) && (inB m.low 0 1099511627776 && (inB m.tm 0 1099511627776 && decide ((m.d.length : Int) ≤ 1024))))))))
def opZ (c : CmD) : Bool := (c.op.kind == 0) && ((c.op.reg == 0) && ((c.op.tg == 0) && ((c.op.re == 0) && (c.op.im == 0))))
def get1 (c : CmD) : CmD := ⟨c.sess, c.seq, c.ack, ⟨1, 0, 0, 0, 0⟩⟩
def cmdX (m : Ms) : Int := if m.k = 13 then cmdV m.c else if m.c.ack ≠ 0 then 23 else if opZ m.c = false then 23 else cmdV (get1 m.c)
def resB (m : Ms) : Bool := inB m.rk 1 9 && (inB m.re (-1048576) 1048576 && inB m.im (-1048576) 1048576)
def restE (m : Ms) : Int := if (ub (useI m.k) 1 && !(balB m.r m.n)) = true then 27 else if ub (useI m.k) 16 = true then valE m.p.v else if ub (useI m.k) 32 = true then chkVs m.slot (vlsOf m.vs) else if ub (useI m.k) 64 = true ∧ cmdX m ≠ 0 then cmdX m else if (ub (useI m.k) 128 && !(resB m)) = true then 26 else 0
def chkM (m : Ms) : Int := if plainP m = true then restE m else 26
theorem empty_any (m : Ms) (w : World) : Calls Try.prog 27 #[m.val] w (PureAt w (.bool m.left)) := by
  refine calls_at (tab_ok _) Try.func27 rfl tEmpty (ρ := ⟨m.ints, [], [], m.nats, m.adrs⟩) (ids := []) rfl (Facts.initP rfl oneNil) ?_
  have hno : ∀ {m2 : Mem} {ρ : Env} {S : Stack}, m.left = false → (Tree.done (.lf (.bool (.lit false))) m2).holds ⟨Try.prog, w, fun _ => False, PureAt w (.bool m.left)⟩ ρ [] HX.nil S := fun h => pure_done fun _ => by rw [h]; rfl
  refine br_B (m.r == 0 && m.n == 0) (by kernel_rfl) (fun h1 => ?_) (fun h => hno (by unfold Ms.left; rw [h]; rfl))
  refine br_B (m.slot == 0) (by kernel_rfl) (fun h2 => ?_) (fun h => hno (by unfold Ms.left; rw [h1, h]; rfl))
  refine br_B (m.low == 0) (by kernel_rfl) (fun h3 => ?_) (fun h => hno (by unfold Ms.left; rw [h1, h2, h]; rfl))
  refine br_B (m.tm == 0) (by kernel_rfl) (fun h4 => ?_) (fun h => hno (by unfold Ms.left; rw [h1, h2, h3, h]; rfl))
  refine br_B (m.p.v.k == 0) (by kernel_rfl) (fun h5 => ?_) (fun h => hno (by unfold Ms.left; rw [h1, h2, h3, h4, h]; rfl))
  have hl : ∀ (n : Nat), ((n : Int) == 0) = decide (n = 0) := fun n => by rw [Bool.eq_iff_iff]; simp
  refine br_B (decide (m.p.v.cs.length = 0)) (by rw [← hl]; kernel_rfl) (fun h6 => ?_) (fun h => hno (by unfold Ms.left; rw [h1, h2, h3, h4, h5, h]; rfl))
  refine br_B (decide (m.p.v.ns.length = 0)) (by rw [← hl]; kernel_rfl) (fun h7 => ?_) (fun h => hno (by unfold Ms.left; rw [h1, h2, h3, h4, h5, h6, h]; rfl))
  refine br_B (decide (m.vs.length = 0)) (by rw [← hl]; kernel_rfl) (fun h8 => ?_) (fun h => hno (by unfold Ms.left; rw [h1, h2, h3, h4, h5, h6, h7, h]; rfl))
  refine br_B (cmdEq m.c cz) (by kernel_rfl) (fun h9 => ?_) (fun h => hno (by unfold Ms.left; rw [h1, h2, h3, h4, h5, h6, h7, h8, h]; rfl))
  refine br_B (m.rk == 0 && (m.re == 0 && m.im == 0)) (by kernel_rfl) (fun h10 => ?_) (fun h => hno (by unfold Ms.left; rw [h1, h2, h3, h4, h5, h6, h7, h8, h9, h]; rfl))
  have e : m.left = ((m.d.length : Int) == 0) := by unfold Ms.left; rw [h1, h2, h3, h4, h5, h6, h7, h8, h9, h10, hl]; rfl
  rw [e]
  exact pure_done (by intros; kernel_rfl)
theorem command_any (m : Ms) (w : World) : Calls Try.prog 31 #[m.val] w (PureAt w (.int .i64 (cmdX m))) := by
  refine calls_at (tab_ok _) Try.func31 rfl tCommand (ρ := ⟨m.ints, [], [], m.nats, m.adrs⟩) (ids := []) rfl (Facts.initP rfl oneNil) ?_
  unfold cmdX
  refine br_D (p := m.k = 13) (by kernel_rfl) (fun h => ?_) (fun h => ?_)
  · rw [if_pos h]
    refine node_P ⟨[cmdV m.c], [], [], [], []⟩ #[.agg m.c.cells.toArray] (.int .i64 (cmdV m.c)) (by intros; kernel_rfl) (by intros; kernel_rfl) (by kernel_rfl) (by kernel_rfl) (by kernel_rfl) oneNil (fun ids w2 hp hf => cmd_any m.c w2) ?_
    exact pure_done (by intros; kernel_rfl)
  rw [if_neg h]
  refine br_D (p := m.c.ack ≠ 0) (by show (m.c.ack != 0) = _; rw [Bool.eq_iff_iff]; simp) (fun h2 => ?_) (fun h2 => ?_)
  · rw [if_pos h2]
    exact pure_done (by intros; kernel_rfl)
  rw [if_neg h2]
  refine br_B (!(opZ m.c)) (by kernel_rfl) (fun h3 => ?_) (fun h3 => ?_)
  · rw [if_pos (by simpa using h3)]
    exact pure_done (by intros; kernel_rfl)
  rw [if_neg (by rw [show opZ m.c = true by simpa using h3]; decide)]
  refine node_P ⟨[cmdV (get1 m.c)], [], [], [], []⟩ #[.agg (get1 m.c).cells.toArray] (.int .i64 (cmdV (get1 m.c))) (by intros; kernel_rfl) (by intros; kernel_rfl) (by kernel_rfl) (by kernel_rfl) (by kernel_rfl) oneNil (fun ids w2 hp hf => cmd_any (get1 m.c) w2) ?_
  exact pure_done (by intros; kernel_rfl)
theorem result_any (m : Ms) (w : World) : Calls Try.prog 32 #[.agg #[.int .i64 m.rk, .int .i64 m.re, .int .i64 m.im]] w (PureAt w (.bool (resB m))) := by
  refine calls_at (tab_ok _) Try.func32 rfl tResult (ρ := ⟨[m.rk, m.re, m.im], [], [], [], []⟩) (ids := []) rfl (Facts.initP rfl oneNil) ?_
  unfold resB
  refine node_P ⟨[], [inB m.rk 1 9], [], [], []⟩ #[.int .i64 m.rk, .int .i64 1, .int .i64 9] (.bool (inB m.rk 1 9)) (by intros; kernel_rfl) (by intros; kernel_rfl) (by kernel_rfl) (by kernel_rfl) (by kernel_rfl) oneNil (fun ids w2 hp hf => mwithin_any _ _ _ w2) ?_
  refine br_B (inB m.rk 1 9) (by kernel_rfl) (fun h => ?_) (fun h => pure_done fun _ => by rw [h]; rfl)
  rw [h]
  refine node_P ⟨[], [inB m.re (-1048576) 1048576], [], [], []⟩ #[.int .i64 m.re, .int .i64 (-1048576), .int .i64 1048576] (.bool (inB m.re (-1048576) 1048576)) (by intros; kernel_rfl) (by intros; kernel_rfl) (by kernel_rfl) (by kernel_rfl) (by kernel_rfl) oneNil (fun ids w2 hp hf => mwithin_any _ _ _ w2) ?_
  refine br_B (inB m.re (-1048576) 1048576) (by kernel_rfl) (fun h2 => ?_) (fun h2 => pure_done fun _ => by rw [h2]; rfl)
  rw [h2]
  refine node_P ⟨[], [inB m.im (-1048576) 1048576], [], [], []⟩ #[.int .i64 m.im, .int .i64 (-1048576), .int .i64 1048576] (.bool (inB m.im (-1048576) 1048576)) (by intros; kernel_rfl) (by intros; kernel_rfl) (by kernel_rfl) (by kernel_rfl) (by kernel_rfl) oneNil (fun ids w2 hp hf => mwithin_any _ _ _ w2) ?_
  exact pure_done (by intros; kernel_rfl)
set_option maxHeartbeats 1000000 in
theorem mchk_any (m : Ms) (w : World) (H : m.X.X w) (hfit : MsFit m) (hs : -9223372036854775808 ≤ m.slot) : Calls Try.prog 10 #[m.val] w (PureAt w (.int .i64 (chkM m))) := by
  obtain ⟨u, eu⟩ : ∃ x, x = useI m.k := ⟨_, rfl⟩
  obtain ⟨B, eB⟩ : ∃ x, x = m.X := ⟨_, rfl⟩
  have BX : ∀ {w}, B.X w → m.X.X w := fun h => by rw [← eB]; exact h
  have bad : ∀ {m2 : Mem} {ρ : Env} {hx : HX} {S : Stack}, plainP m = false → (Tree.done (.lf (.int .i64 (.lit 26))) m2).holds ⟨Try.prog, w, fun _ => False, PureAt w (.int .i64 (chkM m))⟩ ρ [] hx S := fun h => pure_done fun _ => by unfold chkM; rw [if_neg (by rw [h]; decide)]; rfl
  refine calls_at (tab_ok _) Try.func10 rfl tMChk (ρ := ⟨m.ints, [], [], m.nats, m.adrs⟩) (ids := []) (hx := B) rfl (Facts.initq rfl oneNil (by rw [eB]; exact H) (by rw [eB]; exact Ms.X_sep H)) ?_
  refine node_P ⟨[u], [], [], [], []⟩ #[.int .i64 m.k] (.int .i64 u) (by intros; kernel_rfl) (by intros; kernel_rfl) (by kernel_rfl) (by kernel_rfl) (by kernel_rfl) oneNil (fun ids w2 hp hf => by rw [eu]; exact uses_any m.k w2) ?_
  refine ⟨fun vs hx => vs = ⟨[leastI u m.k], [], [], [], []⟩ ∧ B = hx, ?_, ?_⟩
  · refine br_B (ub u 48) (by kernel_rfl) (fun h => again_V ⟨[1], [], [], [], []⟩ rfl (by intros; kernel_rfl) _ (fun w2 ids hf => ⟨hf.x, hf.sep⟩) ⟨by unfold leastI; rw [h]; rfl, rfl⟩) (fun h => ?_)
    refine br_B (m.k == 1) (by kernel_rfl) (fun h2 => again_V ⟨[1], [], [], [], []⟩ rfl (by intros; kernel_rfl) _ (fun w2 ids hf => ⟨hf.x, hf.sep⟩) ⟨by unfold leastI; rw [h, h2]; rfl, rfl⟩) (fun h2 => ?_)
    refine br_B (m.k == 8) (by kernel_rfl) (fun h3 => again_V ⟨[1], [], [], [], []⟩ rfl (by intros; kernel_rfl) _ (fun w2 ids hf => ⟨hf.x, hf.sep⟩) ⟨by unfold leastI; rw [h, h2, h3]; rfl, rfl⟩) (fun h3 => again_V ⟨[0], [], [], [], []⟩ rfl (by intros; kernel_rfl) _ (fun w2 ids hf => ⟨hf.x, hf.sep⟩) ⟨by unfold leastI; rw [h, h2, h3]; rfl, rfl⟩)
  rintro vs hx hcnt ⟨rfl, rfl⟩
  obtain ⟨lst, elst⟩ : ∃ x, x = leastI u m.k := ⟨_, rfl⟩
  rw [← elst]
  have hplain : plainP m = ((u != 0) && (inB m.f 0 9 && (inB m.t 0 9 && (inB m.e 0 1099511627776 && ((m.bare u).left && ((!(ub u 2) || inB m.slot lst 1099511627776) && (inB m.low 0 1099511627776 && (inB m.tm 0 1099511627776 && decide ((m.d.length : Int) ≤ 1024))))))))) := by rw [elst, eu]; rfl
  refine br_B (u == 0) (by kernel_rfl) (fun h => bad (by rw [hplain, show (u != 0) = false by simpa using h]; rfl)) (fun h => ?_)
  have g0 : (u != 0) = true := by simpa using h
  refine node_P ⟨[], [inB m.f 0 9], [], [], []⟩ #[.int .i64 m.f, .int .i64 0, .int .i64 9] (.bool (inB m.f 0 9)) (by intros; kernel_rfl) (by intros; kernel_rfl) (by kernel_rfl) (by kernel_rfl) (by kernel_rfl) oneNil (fun ids w2 hp hf => mwithin_any _ _ _ w2) ?_
  refine br_B (!(inB m.f 0 9)) (by kernel_rfl) (fun h => bad (by rw [hplain, g0, show inB m.f 0 9 = false by simpa using h]; rfl)) (fun h1 => ?_)
  have g1 : inB m.f 0 9 = true := by simpa using h1
  refine node_P ⟨[], [inB m.t 0 9], [], [], []⟩ #[.int .i64 m.t, .int .i64 0, .int .i64 9] (.bool (inB m.t 0 9)) (by intros; kernel_rfl) (by intros; kernel_rfl) (by kernel_rfl) (by kernel_rfl) (by kernel_rfl) oneNil (fun ids w2 hp hf => mwithin_any _ _ _ w2) ?_
  refine br_B (!(inB m.t 0 9)) (by kernel_rfl) (fun h => bad (by rw [hplain, g0, g1, show inB m.t 0 9 = false by simpa using h]; rfl)) (fun h2 => ?_)
  have g2 : inB m.t 0 9 = true := by simpa using h2
  refine node_P ⟨[], [inB m.e 0 1099511627776], [], [], []⟩ #[.int .i64 m.e, .int .i64 0, .int .i64 1099511627776] (.bool (inB m.e 0 1099511627776)) (by intros; kernel_rfl) (by intros; kernel_rfl) (by kernel_rfl) (by kernel_rfl) (by kernel_rfl) oneNil (fun ids w2 hp hf => mwithin_any _ _ _ w2) ?_
  refine br_B (!(inB m.e 0 1099511627776)) (by kernel_rfl) (fun h => bad (by rw [hplain, g0, g1, g2, show inB m.e 0 1099511627776 = false by simpa using h]; rfl)) (fun h3 => ?_)
  have g3 : inB m.e 0 1099511627776 = true := by simpa using h3
  obtain ⟨mb, emb⟩ : ∃ x, x = m.bare u := ⟨_, rfl⟩
  refine node_P mb.vals #[m.val, .int .i64 u] mb.val (by intros; kernel_rfl) (by intros; kernel_rfl) (by kernel_rfl) (by kernel_rfl) (by kernel_rfl) oneNil (fun ids w2 hp hf => by rw [emb]; exact bare_any u m w2) ?_
  refine node_P ⟨[], [mb.left], [], [], []⟩ #[mb.val] (.bool mb.left) (by intros; kernel_rfl) (by intros; kernel_rfl) (by kernel_rfl) (by kernel_rfl) (by kernel_rfl) oneNil (fun ids w2 hp hf => empty_any mb w2) ?_
  refine br_B (!(mb.left)) (by kernel_rfl) (fun h => bad (by rw [hplain, g0, g1, g2, g3, ← emb, show mb.left = false by simpa using h]; rfl)) (fun h4 => ?_)
  have g4 : mb.left = true := by simpa using h4
  refine ⟨fun vs hx => vs = Vals.nil ∧ plainP m = true ∧ B = hx, ?_, ?_⟩
  · have hlow : ∀ {x : Bool}, (!(ub u 2) || inB m.slot lst 1099511627776) = x → plainP m = (x && (inB m.low 0 1099511627776 && (inB m.tm 0 1099511627776 && decide ((m.d.length : Int) ≤ 1024)))) := fun h => by rw [hplain, g0, g1, g2, g3, ← emb, g4, h]; rfl
    refine br_B (ub u 2) (by kernel_rfl) (fun h5 => ?A) (fun h5 => ?B)
    case' A =>
      refine node_P ⟨[], [inB m.slot lst 1099511627776], [], [], []⟩ #[.int .i64 m.slot, .int .i64 lst, .int .i64 1099511627776] (.bool (inB m.slot lst 1099511627776)) (by intros; kernel_rfl) (by intros; kernel_rfl) (by kernel_rfl) (by kernel_rfl) (by kernel_rfl) oneNil (fun ids w2 hp hf => mwithin_any _ _ _ w2) ?_
      refine br_B (!(inB m.slot lst 1099511627776)) (by kernel_rfl) (fun h => bad (by rw [hlow (x := false) (by rw [h5, show inB m.slot lst 1099511627776 = false by simpa using h]; rfl)]; rfl)) (fun h6 => ?_)
      have hP := hlow (x := true) (by rw [show inB m.slot lst 1099511627776 = true by simpa using h6, Bool.or_true])
    case' B =>
      have hP := hlow (x := true) (by rw [h5]; rfl)
    all_goals
      rw [Bool.true_and] at hP
      refine node_P ⟨[], [inB m.low 0 1099511627776], [], [], []⟩ #[.int .i64 m.low, .int .i64 0, .int .i64 1099511627776] (.bool (inB m.low 0 1099511627776)) (by intros; kernel_rfl) (by intros; kernel_rfl) (by kernel_rfl) (by kernel_rfl) (by kernel_rfl) oneNil (fun ids w2 hp hf => mwithin_any _ _ _ w2) ?_
      refine br_B (!(inB m.low 0 1099511627776)) (by kernel_rfl) (fun h => bad (by rw [hP, show inB m.low 0 1099511627776 = false by simpa using h]; rfl)) (fun h6 => ?_)
      rw [show inB m.low 0 1099511627776 = true by simpa using h6, Bool.true_and] at hP
      refine node_P ⟨[], [inB m.tm 0 1099511627776], [], [], []⟩ #[.int .i64 m.tm, .int .i64 0, .int .i64 1099511627776] (.bool (inB m.tm 0 1099511627776)) (by intros; kernel_rfl) (by intros; kernel_rfl) (by kernel_rfl) (by kernel_rfl) (by kernel_rfl) oneNil (fun ids w2 hp hf => mwithin_any _ _ _ w2) ?_
      refine br_B (!(inB m.tm 0 1099511627776)) (by kernel_rfl) (fun h => bad (by rw [hP, show inB m.tm 0 1099511627776 = false by simpa using h]; rfl)) (fun h7 => ?_)
      rw [show inB m.tm 0 1099511627776 = true by simpa using h7, Bool.true_and] at hP
      refine br_D (p := (m.d.length : Int) > 1024) (by kernel_rfl) (fun h => bad (by rw [hP]; exact decide_eq_false (by omega))) (fun h8 => ?_)
      exact again_V Vals.nil rfl (by intros; kernel_rfl) _ (fun w2 ids hf => ⟨hf.x, hf.sep⟩) ⟨rfl, by rw [hP]; exact decide_eq_true (by omega), rfl⟩
  rintro vs hx hcnt2 ⟨rfl, hpl, rfl⟩
  rw [Env.add_nil]
  have hres : chkM m = restE m := by unfold chkM; rw [if_pos hpl]
  rw [hres]
  have hrest : restE m = if (ub u 1 && !(balB m.r m.n)) = true then 27 else if ub u 16 = true then valE m.p.v else if ub u 32 = true then chkVs m.slot (vlsOf m.vs) else if ub u 64 = true ∧ cmdX m ≠ 0 then cmdX m else if (ub u 128 && !(resB m)) = true then 26 else 0 := by rw [eu]; rfl
  rw [hrest]
  refine ⟨fun vs hx => vs = Vals.nil ∧ (ub u 1 && !(balB m.r m.n)) = false ∧ B = hx, ?_, ?_⟩
  · refine br_B (ub u 1) (by kernel_rfl) (fun h => ?_) (fun h => again_V Vals.nil rfl (by intros; kernel_rfl) _ (fun w2 ids hf => ⟨hf.x, hf.sep⟩) ⟨rfl, by rw [h]; rfl, rfl⟩)
    refine node_P ⟨[], [balB m.r m.n], [], [], []⟩ #[.agg #[.int .i64 m.r, .int .i64 m.n]] (.bool (balB m.r m.n)) (by intros; kernel_rfl) (by intros; kernel_rfl) (by kernel_rfl) (by kernel_rfl) (by kernel_rfl) oneNil (fun ids w2 hp hf => valid_any m.r m.n w2) ?_
    refine br_B (!(balB m.r m.n)) (by kernel_rfl) (fun h2 => pure_done fun _ => by rw [if_pos (by rw [h, h2]; rfl)]; rfl) (fun h2 => again_V Vals.nil rfl (by intros; kernel_rfl) _ (fun w2 ids hf => ⟨hf.x, hf.sep⟩) ⟨rfl, by rw [h2, Bool.and_false], rfl⟩)
  rintro vs hx hcnt3 ⟨rfl, hb, rfl⟩
  rw [Env.add_nil, if_neg (by rw [hb]; decide)]
  refine br_B (ub u 16) (by kernel_rfl) (fun h => ?_) (fun h => ?_)
  · rw [if_pos h]
    refine node_PI ⟨[valE m.p.v], [], [], [], []⟩ (fun _ => #[m.p.val]) (.int .i64 (valE m.p.v)) (by intros; kernel_rfl) (by intros; kernel_rfl) (by kernel_rfl) (by kernel_rfl) (by kernel_rfl) oneNil (fun ids w2 hp hf => vchk_any _ _ _ _ _ w2 (hfit.v.at_ (BX hf.x).1.1)) ?_
    exact pure_done (by intros; kernel_rfl)
  rw [if_neg (by rw [h]; decide)]
  refine br_B (ub u 32) (by kernel_rfl) (fun h2 => ?_) (fun h2 => ?_)
  · rw [if_pos h2]
    refine node_PI ⟨[chkVs m.slot (vlsOf m.vs)], [], [], [], []⟩ (fun _ => #[.slice m.av m.vs.length m.cv, .int .i64 m.slot]) (.int .i64 (chkVs m.slot (vlsOf m.vs))) (by intros; kernel_rfl) (by intros; kernel_rfl) (by kernel_rfl) (by kernel_rfl) (by kernel_rfl) oneNil (fun ids w2 hp hf => chkvs_any m.cv m.slot w2 (BX hf.x).1.2 hfit.vs hs) ?_
    exact pure_done (by intros; kernel_rfl)
  rw [if_neg (by rw [h2]; decide)]
  refine ⟨fun vs hx => vs = Vals.nil ∧ ¬ (ub u 64 = true ∧ cmdX m ≠ 0) ∧ B = hx, ?_, ?_⟩
  · refine br_B (ub u 64) (by kernel_rfl) (fun h3 => ?_) (fun h3 => again_V Vals.nil rfl (by intros; kernel_rfl) _ (fun w2 ids hf => ⟨hf.x, hf.sep⟩) ⟨rfl, fun q => (by rw [h3] at q; cases q.1), rfl⟩)
    refine node_P ⟨[cmdX m], [], [], [], []⟩ #[m.val] (.int .i64 (cmdX m)) (by intros; kernel_rfl) (by intros; kernel_rfl) (by kernel_rfl) (by kernel_rfl) (by kernel_rfl) oneNil (fun ids w2 hp hf => command_any m w2) ?_
    refine br_B (cmdX m != 0) (by kernel_rfl) (fun h4 => pure_done fun _ => by rw [if_pos ⟨h3, by simpa using h4⟩]; rfl) (fun h4 => again_V Vals.nil rfl (by intros; kernel_rfl) _ (fun w2 ids hf => ⟨hf.x, hf.sep⟩) ⟨rfl, fun q => q.2 (by simpa using h4), rfl⟩)
  rintro vs hx hcnt4 ⟨rfl, hc, rfl⟩
  rw [Env.add_nil, if_neg hc]
  refine br_B (ub u 128) (by kernel_rfl) (fun h3 => ?_) (fun h3 => pure_done fun _ => by rw [if_neg (by rw [h3]; exact Bool.false_ne_true)]; rfl)
  refine node_P ⟨[], [resB m], [], [], []⟩ #[.agg #[.int .i64 m.rk, .int .i64 m.re, .int .i64 m.im]] (.bool (resB m)) (by intros; kernel_rfl) (by intros; kernel_rfl) (by kernel_rfl) (by kernel_rfl) (by kernel_rfl) oneNil (fun ids w2 hp hf => result_any m w2) ?_
  refine br_B (!(resB m)) (by kernel_rfl) (fun h4 => pure_done fun _ => by rw [if_pos (by rw [h3, h4]; rfl)]; rfl) (fun h4 => pure_done fun _ => by rw [if_neg (by rw [h4, Bool.and_false]; decide)]; rfl)
end Go.Proofs.Ytadgaefmoobcoaa

namespace Go.Eng
open Go.RowKit Go.Syn
set_option linter.unusedVariables false
section
variable {C : Cfg} {ρ : Env} {pre : List Nat} {hx rest : HX} {L : Stack} {m m' : Mem} {ty : Nat} {ps : List (Nat × SV)} {t : Tree}
theorem node_slen {st : TypeId} {xo : Operand} {ac : Go.Call} {r : SV} (vs : Vals) (hac : ac = { callee := .builtin .len, args := #[xo], argTypes := #[st] }) (s : ByteArray) (hmo : ∀ ids, envOf ρ ids ps xo = .string s)
    (ht : C.P.underlying st = some .string) (hr : ∀ ids, r.den (ρ.add vs) ids = .int .i64 (s.data.toList.length : Int)) (hhp : m'.hp = m.hp) (hfit : hpFits m.c m.hp.length m.hp = true) (hc : (ρ.add vs).cnt = m'.c) (h1 : ∀ v, v ∈ vs.v → v.oneCell' = true)
    (h : t.holds C (ρ.add vs) pre hx L) : (Tree.gen (.call ac) ty ps m (some r) m' t).holds C ρ pre hx L := by
  subst hac
  refine node_gpure (V := .int .i64 (s.data.toList.length : Int)) vs (fun ids w hp hf => ?_) hr hhp hfit hc h1 h
  have hg : goInt s.size = Value.int .i64 (s.data.toList.length : Int) := by
    unfold goInt
    rw [Array.length_toList]; rfl
  simp only [execOp, resolve, invoke, builtin, hmo, Sem.run_bind, Sem.run_pure, Result.andThen_ok, List.map_toArray, List.map_cons, List.map_nil]
  simp [Builtin.len_, run_underlying ht, Result.andThen, hg]
theorem node_sidx {st : TypeId} {xo io : Operand} {r : SV} (vs : Vals) (s : ByteArray) (i : Nat) (b : UInt8) (hxo : ∀ ids, envOf ρ ids ps xo = .string s) (hio : ∀ ids, envOf ρ ids ps io = .int .i64 (i : Int)) (hb : s.data.toList[i]? = some b)
    (ht : C.P.underlying st = some .string) (hr : ∀ ids, r.den (ρ.add vs) ids = .int .u8 (b.toNat : Int)) (hhp : m'.hp = m.hp) (hfit : hpFits m.c m.hp.length m.hp = true) (hc : (ρ.add vs).cnt = m'.c) (h1 : ∀ v, v ∈ vs.v → v.oneCell' = true)
    (h : t.holds C (ρ.add vs) pre hx L) : (Tree.gen (.index st xo io) ty ps m (some r) m' t).holds C ρ pre hx L := by
  refine node_gpure (V := .int .u8 (b.toNat : Int)) vs (fun ids w hp hf => ?_) hr hhp hfit hc h1 h
  have hb2 : s[i]? = some b := by
    rw [Array.getElem?_toList] at hb
    exact hb
  simp only [execOp, hxo, hio]
  simp [Instr.index, asIntOf, run_underlying ht, Result.andThen, hb2]
end
end Go.Eng
namespace Go.Proofs.Ytadgaefmoobcoaa
open Go.ChangeShapes Go.WideShapes Go.ChangeAt Go.RowKit Go.Syn Go.Eng
set_option linter.unusedVariables false
set_option linter.unusedSimpArgs false
set_option maxRecDepth 100000
def usL : List ByteArray := [⟨#[]⟩, ⟨#[98, 115]⟩, ⟨#[98, 115, 108, 111]⟩, ⟨#[98]⟩, ⟨#[98, 115, 118]⟩, ⟨#[98, 115, 118]⟩, ⟨#[98, 115, 116]⟩, ⟨#[98, 116]⟩, ⟨#[115]⟩, ⟨#[115, 118]⟩, ⟨#[115, 108, 100]⟩, ⟨#[115, 108]⟩, ⟨#[115, 108, 100]⟩, ⟨#[99]⟩, ⟨#[99, 114]⟩]
def usesS (k : Int) : ByteArray := if k < 1 then ⟨#[]⟩ else if k > 14 then ⟨#[]⟩ else usL.getD k.toNat ⟨#[]⟩
def hasB (s : ByteArray) (c : Int) : Bool := s.data.toList.any fun b => ((b.toNat : Nat) : Int) == c
theorem ruses_any (k : Int) (w : World) : Calls Try.prog 23 #[.int .i64 k] w (PureAt w (.string (usesS k))) := by
  refine calls_at (tab_ok _) Try.func23 rfl tRUses (ρ := ⟨[k], [], [], [], []⟩) (ids := []) rfl (Facts.initP rfl oneNil) ?_
  unfold usesS
  refine br_D (p := k < 1) (by kernel_rfl) (fun h => pure_done fun _ => by rw [if_pos h]; rfl) (fun h => ?_)
  rw [if_neg h]
  refine br_D (p := k > 14) (by kernel_rfl) (fun h2 => pure_done fun _ => by rw [if_pos h2]; rfl) (fun h2 => ?_)
  rw [if_neg h2]
  obtain ⟨i, rfl⟩ : ∃ i : Nat, k = (i : Int) := ⟨k.toNat, by omega⟩
  refine need_k (0 ≤ (i : Int) ∧ (i : Int) < 15) (by kernel_rfl) ⟨by omega, by omega⟩ ?_
  have hi : i < usL.length := by have : usL.length = 15 := rfl; omega
  refine node_ldp ⟨[], [], [.string (usL.getD i ⟨#[]⟩)], [], []⟩ i rfl rfl (us := usL.map Value.string) (by intros; kernel_rfl) (fun ids j u hj => ?_) (by kernel_rfl) (fun v hv => by simp only [List.mem_singleton] at hv; subst hv; rfl) ?_
  · cases j with
    | zero =>
      have hj : some (Value.string (usL.getD i ⟨#[]⟩)) = some u := hj
      rw [Nat.zero_add, Nat.mul_one, Nat.add_zero, List.getElem?_map, List.getElem?_eq_getElem hi, ← hj, List.getD, List.getElem?_eq_getElem hi]; rfl
    | succ j => cases hj
  rw [Int.toNat_natCast]
  exact pure_done (by intros; kernel_rfl)
theorem any_drop {α : Type} (f : α → Bool) {l : List α} {i : Nat} {b : α} (h : l[i]? = some b) : (l.drop i).any f = (f b || (l.drop (i + 1)).any f) := by
  obtain ⟨hi, e⟩ := List.getElem?_eq_some_iff.1 h
  rw [List.drop_eq_getElem_cons hi, e, List.any_cons]
theorem has_any (s : ByteArray) (c : Int) (hl : s.data.toList.length ≤ 1000) (w : World) : Calls Try.prog 35 #[.string s, .int .u8 c] w (PureAt w (.bool (hasB s c))) := by
  refine calls_at (tab_ok _) Try.func35 rfl tRHas (ρ := ⟨[c], [], [.string s], [], []⟩) (ids := []) (hx := HX.nil) rfl (Facts.initP rfl (fun v hv => by simp only [List.mem_singleton] at hv; subst hv; rfl)) ?_
  obtain ⟨l, el⟩ : ∃ x, x = s.data.toList := ⟨_, rfl⟩
  have hB : hasB s c = l.any fun b => ((b.toNat : Nat) : Int) == c := by rw [el]; rfl
  rw [hB]
  refine ⟨fun vs hx n => ∃ i : Nat, n = l.length - i ∧ i ≤ l.length ∧ vs = ⟨[(i : Int)], [], [], [], []⟩ ∧ (l.any fun b => ((b.toNat : Nat) : Int) == c) = ((l.drop i).any fun b => ((b.toNat : Nat) : Int) == c) ∧ HX.nil = hx, fun ids w2 hp hf => ⟨_, l.length, ⟨hf.x, hf.sep⟩, 0, rfl, Nat.zero_le _, by kernel_rfl, rfl, rfl⟩, ?_⟩
  rintro vs hx' n hcnt ⟨i, rfl, hi, rfl, he, rfl⟩
  refine holds_env (ρ' := ⟨[c, (i : Int)], [], [.string s], [], []⟩) rfl ?_
  refine node_slen ⟨[(l.length : Int)], [], [], [], []⟩ rfl s (by intros; kernel_rfl) Try.underlying9 (fun _ => by rw [← el]; rfl) (by kernel_rfl) (by kernel_rfl) (by kernel_rfl) oneNil ?_
  refine br_D (p := (i : Int) < (l.length : Int)) (by kernel_rfl) (fun hk => ?_) (fun hk => pure_done fun _ => by rw [he, List.drop_eq_nil_of_le (by omega)]; rfl)
  obtain ⟨b, hb⟩ : ∃ b, l[i]? = some b := ⟨_, List.getElem?_eq_getElem (by omega)⟩
  have hst := any_drop (fun b : UInt8 => ((b.toNat : Nat) : Int) == c) hb
  refine node_sidx ⟨[((b.toNat : Nat) : Int)], [], [], [], []⟩ s i b (by intros; kernel_rfl) (by intros; kernel_rfl) (by rw [← el]; exact hb) Try.underlying9 (by intros; kernel_rfl) (by kernel_rfl) (by kernel_rfl) (by kernel_rfl) oneNil ?_
  refine br_B (((b.toNat : Nat) : Int) == c) (by kernel_rfl) (fun h => pure_done fun _ => by rw [he, hst, h]; rfl) (fun h => ?_)
  rw [← el] at hl
  have hwi : IntKind.i64.wrap ((i : Int) + 1) = ((i + 1 : Nat) : Int) := by rw [wrap_i64 (by omega)]; omega
  exact again_V ⟨[IntKind.i64.wrap ((i : Int) + 1)], [], [], [], []⟩ rfl (by intros; kernel_rfl) _ (fun w2 ids hf => ⟨hf.x, hf.sep⟩) ⟨l.length - (i + 1), by omega, i + 1, rfl, by omega, by rw [hwi], by rw [he, hst, h, Bool.false_or], rfl⟩
theorem kcases (k : Int) : k = 1 ∨ k = 2 ∨ k = 3 ∨ k = 4 ∨ k = 5 ∨ k = 6 ∨ k = 7 ∨ k = 8 ∨ k = 9 ∨ k = 10 ∨ k = 11 ∨ k = 12 ∨ k = 13 ∨ k = 14 ∨ (useI k = 0 ∧ usesS k = ⟨#[]⟩ ∧ k ≠ 1 ∧ k ≠ 2 ∧ k ≠ 3 ∧ k ≠ 4 ∧ k ≠ 5 ∧ k ≠ 6 ∧ k ≠ 7 ∧ k ≠ 8 ∧ k ≠ 9 ∧ k ≠ 10 ∧ k ≠ 11 ∧ k ≠ 12 ∧ k ≠ 13 ∧ k ≠ 14) := by
  by_cases h : 1 ≤ k ∧ k ≤ 14
  · omega
  · have hs : usesS k = ⟨#[]⟩ := by
      unfold usesS
      by_cases h1 : k < 1
      · rw [if_pos h1]
      · rw [if_neg h1, if_pos (by omega)]
    have h1 : k ≠ 1 := by omega
    have h2 : k ≠ 2 := by omega
    have h3 : k ≠ 3 := by omega
    have h4 : k ≠ 4 := by omega
    have h5 : k ≠ 5 := by omega
    have h6 : k ≠ 6 := by omega
    have h7 : k ≠ 7 := by omega
    have h8 : k ≠ 8 := by omega
    have h9 : k ≠ 9 := by omega
    have h10 : k ≠ 10 := by omega
    have h11 : k ≠ 11 := by omega
    have h12 : k ≠ 12 := by omega
    have h13 : k ≠ 13 := by omega
    have h14 : k ≠ 14 := by omega
    have hu : useI k = 0 := by unfold useI; simp [h1, h2, h3, h4, h5, h6, h7, h8, h9, h10, h11, h12, h13, h14]
    exact .inr (.inr (.inr (.inr (.inr (.inr (.inr (.inr (.inr (.inr (.inr (.inr (.inr (.inr (⟨hu, hs, h1, h2, h3, h4, h5, h6, h7, h8, h9, h10, h11, h12, h13, h14⟩))))))))))))))
theorem uses_len (k : Int) : (usesS k).data.toList.length ≤ 1000 := by
  rcases kcases k with rfl | rfl | rfl | rfl | rfl | rfl | rfl | rfl | rfl | rfl | rfl | rfl | rfl | rfl | ⟨h, h2, _⟩
  all_goals first | exact (by decide) | (rw [h2]; exact (by decide))
theorem has_b (k : Int) : hasB (usesS k) 98 = ub (useI k) 1 := by
  rcases kcases k with rfl | rfl | rfl | rfl | rfl | rfl | rfl | rfl | rfl | rfl | rfl | rfl | rfl | rfl | ⟨h, h2, _⟩
  all_goals first | rfl | (rw [h, h2]; rfl)
theorem has_s (k : Int) : hasB (usesS k) 115 = ub (useI k) 2 := by
  rcases kcases k with rfl | rfl | rfl | rfl | rfl | rfl | rfl | rfl | rfl | rfl | rfl | rfl | rfl | rfl | ⟨h, h2, _⟩
  all_goals first | rfl | (rw [h, h2]; rfl)
theorem has_l (k : Int) : hasB (usesS k) 108 = ub (useI k) 4 := by
  rcases kcases k with rfl | rfl | rfl | rfl | rfl | rfl | rfl | rfl | rfl | rfl | rfl | rfl | rfl | rfl | ⟨h, h2, _⟩
  all_goals first | rfl | (rw [h, h2]; rfl)
theorem has_t (k : Int) : hasB (usesS k) 116 = ub (useI k) 8 := by
  rcases kcases k with rfl | rfl | rfl | rfl | rfl | rfl | rfl | rfl | rfl | rfl | rfl | rfl | rfl | rfl | ⟨h, h2, _⟩
  all_goals first | rfl | (rw [h, h2]; rfl)
theorem has_v (k : Int) : hasB (usesS k) 118 = ub (useI k) 16 := by
  rcases kcases k with rfl | rfl | rfl | rfl | rfl | rfl | rfl | rfl | rfl | rfl | rfl | rfl | rfl | rfl | ⟨h, h2, _⟩
  all_goals first | rfl | (rw [h, h2]; rfl)
theorem has_o (k : Int) : hasB (usesS k) 111 = ub (useI k) 32 := by
  rcases kcases k with rfl | rfl | rfl | rfl | rfl | rfl | rfl | rfl | rfl | rfl | rfl | rfl | rfl | rfl | ⟨h, h2, _⟩
  all_goals first | rfl | (rw [h, h2]; rfl)
theorem has_c (k : Int) : hasB (usesS k) 99 = ub (useI k) 64 := by
  rcases kcases k with rfl | rfl | rfl | rfl | rfl | rfl | rfl | rfl | rfl | rfl | rfl | rfl | rfl | rfl | ⟨h, h2, _⟩
  all_goals first | rfl | (rw [h, h2]; rfl)
theorem has_r (k : Int) : hasB (usesS k) 114 = ub (useI k) 128 := by
  rcases kcases k with rfl | rfl | rfl | rfl | rfl | rfl | rfl | rfl | rfl | rfl | rfl | rfl | rfl | rfl | ⟨h, h2, _⟩
  all_goals first | rfl | (rw [h, h2]; rfl)
theorem has_d (k : Int) : hasB (usesS k) 100 = ub (useI k) 256 := by
  rcases kcases k with rfl | rfl | rfl | rfl | rfl | rfl | rfl | rfl | rfl | rfl | rfl | rfl | rfl | rfl | ⟨h, h2, _⟩
  all_goals first | rfl | (rw [h, h2]; rfl)
def oneK (k : Int) : Bool := (k == 1) || ((k == 2) || ((k == 4) || ((k == 5) || ((k == 8) || (k == 9)))))
theorem least_one (k : Int) : leastI (useI k) k = if oneK k = true then 1 else 0 := by
  rcases kcases k with rfl | rfl | rfl | rfl | rfl | rfl | rfl | rfl | rfl | rfl | rfl | rfl | rfl | rfl | ⟨h, h2, g1, g2, g3, g4, g5, g6, g7, g8, g9, g10, g11, g12, g13, g14⟩
  all_goals first | rfl | (unfold leastI oneK; rw [h]; simp [g1, g2, g3, g4, g5, g6, g7, g8, g9, g10, g11, g12, g13, g14]; decide)
theorem one_slot (k : Int) (h0 : oneK k = true) : ub (useI k) 2 = true := by
  rcases kcases k with rfl | rfl | rfl | rfl | rfl | rfl | rfl | rfl | rfl | rfl | rfl | rfl | rfl | rfl | ⟨h, h2, g1, g2, g3, g4, g5, g6, g7, g8, g9, g10, g11, g12, g13, g14⟩
  all_goals first | rfl | exact absurd h0 (by decide) | (unfold oneK at h0; simp [g1, g2, g3, g4, g5, g6, g7, g8, g9, g10, g11, g12, g13, g14] at h0)
end Go.Proofs.Ytadgaefmoobcoaa

namespace Go.Proofs.Ytadgaefmoobcoaa
open Go.ChangeShapes Go.WideShapes Go.ChangeAt Go.RowKit Go.Syn Go.Eng
set_option linter.unusedVariables false
set_option linter.unusedSimpArgs false
set_option maxRecDepth 100000
theorem rvalid_any (r n : Int) (w : World) : Calls Try.prog 36 #[.agg #[.int .i64 r, .int .i64 n]] w (PureAt w (.bool (balB r n))) := refValid_any r n w
section
variable {C : Cfg} {ρ : Env} {pre : List Nat} {hx : HX} {L : Stack} {m m' : Mem} {t : Tree}
theorem node_ldx {l : LV} {cs : List LV} (vs : Vals) (V : Value) (us : List Value) (hl : ∀ ids, l.den ρ ids = V) (hcs : ∀ ids, cellsDen (ρ.add vs) ids cs = us) (hcell : CellsAt C.W V us C.M) (hc : (ρ.add vs).cnt = m'.c ∧ (ρ.add vs).v = []) (h : t.holds C (ρ.add vs) pre hx L) : (Tree.ld false l cs m m' t).holds C ρ pre hx L :=
  ⟨vs, fun ids => by rw [hl, hcs]; exact hcell, ⟨hc.1, fun v hv => by rw [hc.2] at hv; cases hv⟩, h⟩
end
section
variable {w : World} {a : Option Addr} {xs : List (Vo Pv)}
theorem vo_part (h : (voX a xs).X w) {i : Nat} {x : Vo Pv} (hi : xs[i]? = some x) (o : Nat) (us : List Value) (hu : ∀ j u, us[j]? = some u → (voC x)[o + j]? = some u) (h0 : us ≠ []) : a.isSome = true ∧ CellsAt w (.pointer (some (((a.getD ⟨0, 0, none⟩).add (i * 6)).add o))) us (fun _ => False) := by
  obtain ⟨h1, h2⟩ := flat_part voc_len h.1 hi (o := o) us hu h0
  exact ⟨h1, h2 _ id⟩
def prevF (f0 : Int) (xs : List (Vo Pv)) (k : Nat) : Int := if k = 0 then f0 else match xs[k - 1]? with | some y => y.s + 1 | none => f0
theorem rchkvs_any (cap : Nat) (f0 : Int) (w : World) (H : (voX a xs).X w) (hf : ∀ x ∈ xs, VlFit x.v.v) (hI : ∀ x ∈ xs, I64 x.s) : Calls Try.prog 15 #[.slice a xs.length cap, .int .i64 f0] w (PureAt w (.int .i64 (chkVs f0 (vlsOf xs)))) := by
  refine calls_at (tab_ok _) Try.func15 rfl tRChkVs (ρ := ⟨[f0], [], [], [xs.length, cap], [a]⟩) (ids := []) (hx := voX a xs) rfl (Facts.initq rfl oneNil H (voX_sep H)) ?_
  have hl : (vlsOf xs).length = xs.length := List.length_map _
  refine br_D (p := (xs.length : Int) > 64) (by kernel_rfl) (fun h => pure_done fun _ => ?_) (fun h => ?_)
  · unfold chkVs; rw [if_pos (by omega)]; rfl
  have hc : chkVs f0 (vlsOf xs) = vsE f0 (vlsOf xs) := by unfold chkVs; rw [if_neg (by omega)]
  rw [hc]
  refine ⟨fun vs hx m => ∃ (k : Nat), m = xs.length - k ∧ k ≤ xs.length ∧ vs = ⟨[(k : Int)], [], [], [], []⟩ ∧ (0 < k → f0 < prevF f0 xs k) ∧ vsE (prevF f0 xs k) (vlsOf (xs.drop k)) = vsE f0 (vlsOf xs) ∧ hx = voX a xs, fun ids w2 hp hf => ⟨_, xs.length, ⟨hf.x, hf.sep⟩, 0, rfl, Nat.zero_le _, rfl, fun h => absurd h (by omega), by rw [List.drop_zero]; rfl, rfl⟩, ?_⟩
  rintro vs hx' n hcnt ⟨k, rfl, hk, rfl, hfk, he, rfl⟩
  obtain ⟨f, ef⟩ : ∃ f, f = prevF f0 xs k := ⟨_, rfl⟩
  rw [← ef] at hfk he
  refine holds_env (ρ' := ⟨[f0, (k : Int)], [], [], [xs.length, cap], [a]⟩) rfl ?_
  refine br_D (p := (k : Int) < (xs.length : Int)) (by kernel_rfl) (fun hkl => ?_) (fun hkl => pure_done fun _ => by rw [← he, List.drop_eq_nil_of_le (by omega)]; rfl)
  have hkl : k < xs.length := by omega
  obtain ⟨x, hx⟩ : ∃ b, xs[k]? = some b := ⟨_, List.getElem?_eq_getElem hkl⟩
  have hxm := List.mem_of_getElem? hx
  have hd : xs.drop k = x :: xs.drop (k + 1) := by
    rw [List.drop_eq_getElem_cons hkl]
    rw [List.getElem?_eq_getElem hkl] at hx
    rw [Option.some.inj hx]
  have hxI := hI x hxm
  have hpf : prevF f0 xs (k + 1) = x.s + 1 := by unfold prevF; rw [if_neg (by omega), Nat.add_sub_cancel, hx]
  have he2 : vsE f0 (vlsOf xs) = if x.s < f ∨ x.s > 1099511627776 then 26 else if balB x.r x.n = false then 27 else if valE x.v.v ≠ 0 then valE x.v.v else vsE (x.s + 1) (vlsOf (xs.drop (k + 1))) := by
    rw [← he, hd]; rfl
  obtain ⟨s1, q1⟩ := vo_part H hx 0 [.int .i64 x.s] (fun j u hj => by cases j with | zero => exact hj | succ j => cases hj) (by simp)
  obtain ⟨_, q2⟩ := vo_part H hx 1 [.int .i64 x.r, .int .i64 x.n] (fun j u hj => by rcases j with _ | _ | j; exact hj; exact hj; cases hj) (by simp)
  obtain ⟨_, q3⟩ := vo_part H hx 3 x.v.cells (fun j u hj => by rcases j with _ | _ | _ | j; exact hj; exact hj; exact hj; cases hj) (by simp [Pv.cells])
  refine need_k (a.isSome = true ∧ 0 ≤ (k : Int) ∧ (k : Int) < (xs.length : Int)) (by kernel_rfl) ⟨s1, by omega, by omega⟩ ?_
  refine node_ld0 (k := ⟨2, 0, 0, 2, 1⟩) ⟨[x.s], [], [], [], []⟩ (.pointer (some (((a.getD ⟨0, 0, none⟩).add (k * 6)).add 0))) [.int .i64 x.s] (by intros; kernel_rfl) (by intros; kernel_rfl) q1 ⟨by kernel_rfl, oneNil⟩ (by kernel_rfl) oneNil ?_
  refine br_D (p := x.s < f0) (by kernel_rfl) (fun h => pure_done fun _ => ?_) (fun h1 => ?_)
  · have : x.s < f := by
      rcases Nat.eq_zero_or_pos k with q | q
      · rw [ef, q]; exact h
      · have := hfk q; omega
    rw [he2, if_pos (.inl this)]; rfl
  have hwk : IntKind.i64.wrap ((k : Int) + 1) = ((k + 1 : Nat) : Int) := by rw [wrap_i64 (by omega)]; omega
  have fin : ¬ (x.s < f ∨ x.s > 1099511627776) → balB x.r x.n = true → valE x.v.v = 0 → ∀ {m : Mem} {ρ : Env} {es : Vec} {S : Stack}, (∀ ids, es.den ρ ids = ⟨[IntKind.i64.wrap ((k : Int) + 1)], [], [], [], []⟩) → (Tree.again 4 es m).holds ⟨Try.prog, w, fun _ => False, PureAt w (.int .i64 (vsE f0 (vlsOf xs)))⟩ ρ [] (voX a xs) ((4, fun vs' hx'' => ∃ n', n' < xs.length - k ∧ ∃ (k : Nat), n' = xs.length - k ∧ k ≤ xs.length ∧ vs' = ⟨[(k : Int)], [], [], [], []⟩ ∧ (0 < k → f0 < prevF f0 xs k) ∧ vsE (prevF f0 xs k) (vlsOf (xs.drop k)) = vsE f0 (vlsOf xs) ∧ hx'' = voX a xs) :: S) := fun g1 g2 g3 {m ρ es S} hv => by
    rw [if_neg g1, if_neg (by rw [g2]; decide), if_neg (by rw [g3]; decide)] at he2
    exact again_V ⟨[IntKind.i64.wrap ((k : Int) + 1)], [], [], [], []⟩ rfl hv _ (fun w2 ids hf => ⟨hf.x, hf.sep⟩) ⟨xs.length - (k + 1), by omega, k + 1, rfl, by omega, by rw [hwk], fun _ => by rw [hpf]; omega, by rw [hpf]; exact he2.symm, rfl⟩
  refine br_D (p := (k : Int) > 0) (by kernel_rfl) (fun h2 => ?A) (fun h2 => ?B)
  case' A =>
    obtain ⟨y, hy⟩ : ∃ b, xs[k - 1]? = some b := ⟨_, List.getElem?_eq_getElem (by omega)⟩
    have hfy : f = y.s + 1 := by rw [ef]; unfold prevF; rw [if_neg (by omega), hy]
    obtain ⟨_, q4⟩ := vo_part H hy 0 [.int .i64 y.s] (fun j u hj => by cases j with | zero => exact hj | succ j => cases hj) (by simp)
    have hk1 : IntKind.i64.wrap ((k : Int) - 1) = ((k - 1 : Nat) : Int) := by rw [wrap_i64 (by omega)]; omega
    refine need_k (a.isSome = true ∧ 0 ≤ (k : Int) ∧ (k : Int) < (xs.length : Int)) (by kernel_rfl) ⟨s1, by omega, by omega⟩ ?_
    refine node_ld0 (k := ⟨3, 0, 0, 2, 1⟩) ⟨[x.s], [], [], [], []⟩ (.pointer (some (((a.getD ⟨0, 0, none⟩).add (k * 6)).add 0))) [.int .i64 x.s] (by intros; kernel_rfl) (by intros; kernel_rfl) q1 ⟨by kernel_rfl, oneNil⟩ (by kernel_rfl) oneNil ?_
    refine need_k (a.isSome = true ∧ 0 ≤ IntKind.i64.wrap ((k : Int) - 1) ∧ IntKind.i64.wrap ((k : Int) - 1) < (xs.length : Int)) (by kernel_rfl) (by rw [hk1]; exact ⟨s1, by omega, by omega⟩) ?_
    refine node_ld0 (k := ⟨4, 0, 0, 2, 1⟩) ⟨[y.s], [], [], [], []⟩ (.pointer (some (((a.getD ⟨0, 0, none⟩).add ((IntKind.i64.wrap ((k : Int) - 1)).toNat * 6)).add 0))) [.int .i64 y.s] (by intros; kernel_rfl) (by intros; kernel_rfl) (by rw [hk1]; exact q4) ⟨by kernel_rfl, oneNil⟩ (by kernel_rfl) oneNil ?_
    refine br_D (p := x.s ≤ y.s) (by kernel_rfl) (fun h => pure_done fun _ => by rw [he2, if_pos (.inl (by omega))]; rfl) (fun h3 => ?_)
    have hxf : ¬ x.s < f := by omega
  case' B =>
    have hxf : ¬ x.s < f := by
      have : f = f0 := by rw [ef]; unfold prevF; rw [if_pos (by omega)]
      omega
  all_goals
    refine need_k (a.isSome = true ∧ 0 ≤ (k : Int) ∧ (k : Int) < (xs.length : Int)) (by kernel_rfl) ⟨s1, by omega, by omega⟩ ?_
    refine node_ldx ⟨[x.s], [], [], [], []⟩ (.pointer (some (((a.getD ⟨0, 0, none⟩).add (k * 6)).add 0))) [.int .i64 x.s] (by intros; kernel_rfl) (by intros; kernel_rfl) q1 ⟨by kernel_rfl, by kernel_rfl⟩ ?_
    refine br_D (p := x.s > 1099511627776) (by kernel_rfl) (fun h => pure_done fun _ => by rw [he2, if_pos (.inr h)]; rfl) (fun h4 => ?_)
    have g1 : ¬ (x.s < f ∨ x.s > 1099511627776) := by omega
    rw [if_neg g1] at he2
    refine need_k (a.isSome = true ∧ 0 ≤ (k : Int) ∧ (k : Int) < (xs.length : Int)) (by kernel_rfl) ⟨s1, by omega, by omega⟩ ?_
    refine node_ldx ⟨[x.r, x.n], [], [], [], []⟩ (.pointer (some (((a.getD ⟨0, 0, none⟩).add (k * 6)).add 1))) [.int .i64 x.r, .int .i64 x.n] (by intros; kernel_rfl) (by intros; kernel_rfl) q2 ⟨by kernel_rfl, by kernel_rfl⟩ ?_
    refine node_PI ⟨[], [balB x.r x.n], [], [], []⟩ (fun _ => #[.agg #[.int .i64 x.r, .int .i64 x.n]]) (.bool (balB x.r x.n)) (by intros; kernel_rfl) (by intros; kernel_rfl) (by kernel_rfl) (by kernel_rfl) (by kernel_rfl) oneNil (fun ids w2 hp hf => rvalid_any x.r x.n w2) ?_
    refine br_B (!(balB x.r x.n)) (by kernel_rfl) (fun h => pure_done fun _ => by rw [he2, if_pos (by simpa using h)]; rfl) (fun h5 => ?_)
    have g2 : balB x.r x.n = true := by simpa using h5
    rw [if_neg (by rw [g2]; decide)] at he2
    refine need_k (a.isSome = true ∧ 0 ≤ (k : Int) ∧ (k : Int) < (xs.length : Int)) (by kernel_rfl) ⟨s1, by omega, by omega⟩ ?_
    refine node_ldx ⟨[x.v.v.k], [], [], [x.v.v.cs.length, x.v.c1, x.v.v.ns.length, x.v.c2], [x.v.a1, x.v.a2]⟩ (.pointer (some (((a.getD ⟨0, 0, none⟩).add (k * 6)).add 3))) x.v.cells (by intros; kernel_rfl) (by intros; kernel_rfl) q3 ⟨by kernel_rfl, by kernel_rfl⟩ ?_
    refine node_PI ⟨[valE x.v.v], [], [], [], []⟩ (fun _ => #[x.v.val]) (.int .i64 (valE x.v.v)) (by intros; kernel_rfl) (by intros; kernel_rfl) (by kernel_rfl) (by kernel_rfl) (by kernel_rfl) oneNil (fun ids w2 hp hf2 => rchk_any _ _ _ _ _ w2 (voX_at hf2.x hf hxm)) ?_
    refine br_B (valE x.v.v != 0) (by kernel_rfl) (fun h => pure_done fun _ => by rw [he2, if_pos (by simpa using h)]; rfl) (fun h6 => ?_)
    exact fin g1 g2 (by simpa using h6) (by intros; kernel_rfl)
end
structure PlR (m : Ms) : Prop where
  u0 : useI m.k ≠ 0
  f : 0 ≤ m.f ∧ m.f ≤ 9
  t : 0 ≤ m.t ∧ m.t ≤ 9
  e : 0 ≤ m.e ∧ m.e ≤ 1099511627776
  b : (ub (useI m.k) 1 || (m.r == 0 && m.n == 0)) = true
  s : (ub (useI m.k) 2 || (m.slot == 0)) = true
  l : (ub (useI m.k) 4 || (m.low == 0)) = true
  ti : (ub (useI m.k) 8 || (m.tm == 0)) = true
  v : (ub (useI m.k) 16 || ((m.p.v.k == 0) && (decide (m.p.v.cs.length = 0) && decide (m.p.v.ns.length = 0)))) = true
  o : (ub (useI m.k) 32 || decide (m.vs.length = 0)) = true
  c : (ub (useI m.k) 64 || cmdEq m.c cz) = true
  rr : (ub (useI m.k) 128 || ((m.rk == 0) && ((m.re == 0) && (m.im == 0)))) = true
  d : (ub (useI m.k) 256 || decide (m.d.length = 0)) = true
  dl : (m.d.length : Int) ≤ 1024
  s1 : 0 ≤ m.slot ∧ m.slot ≤ 1099511627776
  l1 : 0 ≤ m.low ∧ m.low ≤ 1099511627776
  t1 : 0 ≤ m.tm ∧ m.tm ≤ 1099511627776
  one : oneK m.k = true → 1 ≤ m.slot
def Ms.z1 (m : Ms) : Bool := m.r == 0 && m.n == 0
def Ms.z2 (m : Ms) : Bool := m.slot == 0
def Ms.z3 (m : Ms) : Bool := m.low == 0
def Ms.z4 (m : Ms) : Bool := m.tm == 0
def Ms.z5 (m : Ms) : Bool := (m.p.v.k == 0) && (decide (m.p.v.cs.length = 0) && decide (m.p.v.ns.length = 0))
def Ms.z6 (m : Ms) : Bool := decide (m.vs.length = 0)
def Ms.z7 (m : Ms) : Bool := cmdEq m.c cz
def Ms.z8 (m : Ms) : Bool := (m.rk == 0) && ((m.re == 0) && (m.im == 0))
def Ms.z9 (m : Ms) : Bool := decide (m.d.length = 0)
theorem left_z (m : Ms) : m.left = (m.z1 && (m.z2 && (m.z3 && (m.z4 && (m.z5 && (m.z6 && (m.z7 && (m.z8 && m.z9)))))))) := by
  unfold Ms.left Ms.z1 Ms.z2 Ms.z3 Ms.z4 Ms.z5 Ms.z6 Ms.z7 Ms.z8 Ms.z9
  simp only [Bool.and_assoc]
theorem bz1 (u : Int) (m : Ms) : (Ms.b1 u m).z1 = (ub u 1 || m.z1) ∧ (Ms.b1 u m).z2 = m.z2 ∧ (Ms.b1 u m).z3 = m.z3 ∧ (Ms.b1 u m).z4 = m.z4 ∧ (Ms.b1 u m).z5 = m.z5 ∧ (Ms.b1 u m).z6 = m.z6 ∧ (Ms.b1 u m).z7 = m.z7 ∧ (Ms.b1 u m).z8 = m.z8 ∧ (Ms.b1 u m).z9 = m.z9 := by
  unfold Ms.b1
  by_cases h : ub u 1 = true
  · rw [if_pos h, h]; exact ⟨rfl, rfl, rfl, rfl, rfl, rfl, rfl, rfl, rfl⟩
  · rw [if_neg h, Bool.eq_false_iff.2 h]; exact ⟨rfl, rfl, rfl, rfl, rfl, rfl, rfl, rfl, rfl⟩
theorem bz2 (u : Int) (m : Ms) : (Ms.b2 u m).z1 = m.z1 ∧ (Ms.b2 u m).z2 = (ub u 2 || m.z2) ∧ (Ms.b2 u m).z3 = m.z3 ∧ (Ms.b2 u m).z4 = m.z4 ∧ (Ms.b2 u m).z5 = m.z5 ∧ (Ms.b2 u m).z6 = m.z6 ∧ (Ms.b2 u m).z7 = m.z7 ∧ (Ms.b2 u m).z8 = m.z8 ∧ (Ms.b2 u m).z9 = m.z9 := by
  unfold Ms.b2
  by_cases h : ub u 2 = true
  · rw [if_pos h, h]; exact ⟨rfl, rfl, rfl, rfl, rfl, rfl, rfl, rfl, rfl⟩
  · rw [if_neg h, Bool.eq_false_iff.2 h]; exact ⟨rfl, rfl, rfl, rfl, rfl, rfl, rfl, rfl, rfl⟩
theorem bz3 (u : Int) (m : Ms) : (Ms.b3 u m).z1 = m.z1 ∧ (Ms.b3 u m).z2 = m.z2 ∧ (Ms.b3 u m).z3 = (ub u 4 || m.z3) ∧ (Ms.b3 u m).z4 = m.z4 ∧ (Ms.b3 u m).z5 = m.z5 ∧ (Ms.b3 u m).z6 = m.z6 ∧ (Ms.b3 u m).z7 = m.z7 ∧ (Ms.b3 u m).z8 = m.z8 ∧ (Ms.b3 u m).z9 = m.z9 := by
  unfold Ms.b3
  by_cases h : ub u 4 = true
  · rw [if_pos h, h]; exact ⟨rfl, rfl, rfl, rfl, rfl, rfl, rfl, rfl, rfl⟩
  · rw [if_neg h, Bool.eq_false_iff.2 h]; exact ⟨rfl, rfl, rfl, rfl, rfl, rfl, rfl, rfl, rfl⟩
theorem bz4 (u : Int) (m : Ms) : (Ms.b4 u m).z1 = m.z1 ∧ (Ms.b4 u m).z2 = m.z2 ∧ (Ms.b4 u m).z3 = m.z3 ∧ (Ms.b4 u m).z4 = (ub u 8 || m.z4) ∧ (Ms.b4 u m).z5 = m.z5 ∧ (Ms.b4 u m).z6 = m.z6 ∧ (Ms.b4 u m).z7 = m.z7 ∧ (Ms.b4 u m).z8 = m.z8 ∧ (Ms.b4 u m).z9 = m.z9 := by
  unfold Ms.b4
  by_cases h : ub u 8 = true
  · rw [if_pos h, h]; exact ⟨rfl, rfl, rfl, rfl, rfl, rfl, rfl, rfl, rfl⟩
  · rw [if_neg h, Bool.eq_false_iff.2 h]; exact ⟨rfl, rfl, rfl, rfl, rfl, rfl, rfl, rfl, rfl⟩
theorem bz5 (u : Int) (m : Ms) : (Ms.b5 u m).z1 = m.z1 ∧ (Ms.b5 u m).z2 = m.z2 ∧ (Ms.b5 u m).z3 = m.z3 ∧ (Ms.b5 u m).z4 = m.z4 ∧ (Ms.b5 u m).z5 = (ub u 16 || m.z5) ∧ (Ms.b5 u m).z6 = m.z6 ∧ (Ms.b5 u m).z7 = m.z7 ∧ (Ms.b5 u m).z8 = m.z8 ∧ (Ms.b5 u m).z9 = m.z9 := by
  unfold Ms.b5
  by_cases h : ub u 16 = true
  · rw [if_pos h, h]; exact ⟨rfl, rfl, rfl, rfl, rfl, rfl, rfl, rfl, rfl⟩
  · rw [if_neg h, Bool.eq_false_iff.2 h]; exact ⟨rfl, rfl, rfl, rfl, rfl, rfl, rfl, rfl, rfl⟩
theorem bz6 (u : Int) (m : Ms) : (Ms.b6 u m).z1 = m.z1 ∧ (Ms.b6 u m).z2 = m.z2 ∧ (Ms.b6 u m).z3 = m.z3 ∧ (Ms.b6 u m).z4 = m.z4 ∧ (Ms.b6 u m).z5 = m.z5 ∧ (Ms.b6 u m).z6 = (ub u 32 || m.z6) ∧ (Ms.b6 u m).z7 = m.z7 ∧ (Ms.b6 u m).z8 = m.z8 ∧ (Ms.b6 u m).z9 = m.z9 := by
  unfold Ms.b6
  by_cases h : ub u 32 = true
  · rw [if_pos h, h]; exact ⟨rfl, rfl, rfl, rfl, rfl, rfl, rfl, rfl, rfl⟩
  · rw [if_neg h, Bool.eq_false_iff.2 h]; exact ⟨rfl, rfl, rfl, rfl, rfl, rfl, rfl, rfl, rfl⟩
theorem bz7 (u : Int) (m : Ms) : (Ms.b7 u m).z1 = m.z1 ∧ (Ms.b7 u m).z2 = m.z2 ∧ (Ms.b7 u m).z3 = m.z3 ∧ (Ms.b7 u m).z4 = m.z4 ∧ (Ms.b7 u m).z5 = m.z5 ∧ (Ms.b7 u m).z6 = m.z6 ∧ (Ms.b7 u m).z7 = (ub u 64 || m.z7) ∧ (Ms.b7 u m).z8 = m.z8 ∧ (Ms.b7 u m).z9 = m.z9 := by
  unfold Ms.b7
  by_cases h : ub u 64 = true
  · rw [if_pos h, h]; exact ⟨rfl, rfl, rfl, rfl, rfl, rfl, rfl, rfl, rfl⟩
  · rw [if_neg h, Bool.eq_false_iff.2 h]; exact ⟨rfl, rfl, rfl, rfl, rfl, rfl, rfl, rfl, rfl⟩
theorem bz8 (u : Int) (m : Ms) : (Ms.b8 u m).z1 = m.z1 ∧ (Ms.b8 u m).z2 = m.z2 ∧ (Ms.b8 u m).z3 = m.z3 ∧ (Ms.b8 u m).z4 = m.z4 ∧ (Ms.b8 u m).z5 = m.z5 ∧ (Ms.b8 u m).z6 = m.z6 ∧ (Ms.b8 u m).z7 = m.z7 ∧ (Ms.b8 u m).z8 = (ub u 128 || m.z8) ∧ (Ms.b8 u m).z9 = m.z9 := by
  unfold Ms.b8
  by_cases h : ub u 128 = true
  · rw [if_pos h, h]; exact ⟨rfl, rfl, rfl, rfl, rfl, rfl, rfl, rfl, rfl⟩
  · rw [if_neg h, Bool.eq_false_iff.2 h]; exact ⟨rfl, rfl, rfl, rfl, rfl, rfl, rfl, rfl, rfl⟩
theorem bz9 (u : Int) (m : Ms) : (Ms.b9 u m).z1 = m.z1 ∧ (Ms.b9 u m).z2 = m.z2 ∧ (Ms.b9 u m).z3 = m.z3 ∧ (Ms.b9 u m).z4 = m.z4 ∧ (Ms.b9 u m).z5 = m.z5 ∧ (Ms.b9 u m).z6 = m.z6 ∧ (Ms.b9 u m).z7 = m.z7 ∧ (Ms.b9 u m).z8 = m.z8 ∧ (Ms.b9 u m).z9 = (ub u 256 || m.z9) := by
  unfold Ms.b9
  by_cases h : ub u 256 = true
  · rw [if_pos h, h]; exact ⟨rfl, rfl, rfl, rfl, rfl, rfl, rfl, rfl, rfl⟩
  · rw [if_neg h, Bool.eq_false_iff.2 h]; exact ⟨rfl, rfl, rfl, rfl, rfl, rfl, rfl, rfl, rfl⟩
theorem left_bare (u : Int) (m : Ms) : (m.bare u).left = ((ub u 1 || m.z1) && ((ub u 2 || m.z2) && ((ub u 4 || m.z3) && ((ub u 8 || m.z4) && ((ub u 16 || m.z5) && ((ub u 32 || m.z6) && ((ub u 64 || m.z7) && ((ub u 128 || m.z8) && (ub u 256 || m.z9))))))))) := by
  obtain ⟨m0, e0⟩ : ∃ x, x = ({ m with k := 0, f := 0, t := 0, e := 0 } : Ms) := ⟨_, rfl⟩
  have hm : m0.z1 = m.z1 ∧ m0.z2 = m.z2 ∧ m0.z3 = m.z3 ∧ m0.z4 = m.z4 ∧ m0.z5 = m.z5 ∧ m0.z6 = m.z6 ∧ m0.z7 = m.z7 ∧ m0.z8 = m.z8 ∧ m0.z9 = m.z9 := by rw [e0]; exact ⟨rfl, rfl, rfl, rfl, rfl, rfl, rfl, rfl, rfl⟩
  have hb : m.bare u = Ms.b9 u (Ms.b8 u (Ms.b7 u (Ms.b6 u (Ms.b5 u (Ms.b4 u (Ms.b3 u (Ms.b2 u (Ms.b1 u (m0))))))))) := by rw [e0]; rfl
  rw [hb, left_z]
  obtain ⟨a91, a92, a93, a94, a95, a96, a97, a98, a99⟩ := bz9 u (Ms.b8 u (Ms.b7 u (Ms.b6 u (Ms.b5 u (Ms.b4 u (Ms.b3 u (Ms.b2 u (Ms.b1 u (m0)))))))))
  obtain ⟨a81, a82, a83, a84, a85, a86, a87, a88, a89⟩ := bz8 u (Ms.b7 u (Ms.b6 u (Ms.b5 u (Ms.b4 u (Ms.b3 u (Ms.b2 u (Ms.b1 u (m0))))))))
  obtain ⟨a71, a72, a73, a74, a75, a76, a77, a78, a79⟩ := bz7 u (Ms.b6 u (Ms.b5 u (Ms.b4 u (Ms.b3 u (Ms.b2 u (Ms.b1 u (m0)))))))
  obtain ⟨a61, a62, a63, a64, a65, a66, a67, a68, a69⟩ := bz6 u (Ms.b5 u (Ms.b4 u (Ms.b3 u (Ms.b2 u (Ms.b1 u (m0))))))
  obtain ⟨a51, a52, a53, a54, a55, a56, a57, a58, a59⟩ := bz5 u (Ms.b4 u (Ms.b3 u (Ms.b2 u (Ms.b1 u (m0)))))
  obtain ⟨a41, a42, a43, a44, a45, a46, a47, a48, a49⟩ := bz4 u (Ms.b3 u (Ms.b2 u (Ms.b1 u (m0))))
  obtain ⟨a31, a32, a33, a34, a35, a36, a37, a38, a39⟩ := bz3 u (Ms.b2 u (Ms.b1 u (m0)))
  obtain ⟨a21, a22, a23, a24, a25, a26, a27, a28, a29⟩ := bz2 u (Ms.b1 u (m0))
  obtain ⟨a11, a12, a13, a14, a15, a16, a17, a18, a19⟩ := bz1 u (m0)
  obtain ⟨a01, a02, a03, a04, a05, a06, a07, a08, a09⟩ := hm
  rw [a91, a81, a71, a61, a51, a41, a31, a21, a11, a01]
  rw [a92, a82, a72, a62, a52, a42, a32, a22, a12, a02]
  rw [a93, a83, a73, a63, a53, a43, a33, a23, a13, a03]
  rw [a94, a84, a74, a64, a54, a44, a34, a24, a14, a04]
  rw [a95, a85, a75, a65, a55, a45, a35, a25, a15, a05]
  rw [a96, a86, a76, a66, a56, a46, a36, a26, a16, a06]
  rw [a97, a87, a77, a67, a57, a47, a37, a27, a17, a07]
  rw [a98, a88, a78, a68, a58, a48, a38, a28, a18, a08]
  rw [a99, a89, a79, a69, a59, a49, a39, a29, a19, a09]
theorem plain_iff (m : Ms) : plainP m = true ↔ PlR m := by
  unfold plainP
  rw [left_bare]
  simp only [Bool.and_eq_true, inB_t]
  have hle := least_one m.k
  constructor
  · rintro ⟨h0, h1, h2, h3, ⟨g1, g2, g3, g4, g5, g6, g7, g8, g9⟩, h5, h6, h7, h8⟩
    have hs : 0 ≤ m.slot ∧ m.slot ≤ 1099511627776 ∧ (oneK m.k = true → 1 ≤ m.slot) := by
      by_cases hb : ub (useI m.k) 2 = true
      · rw [hb] at h5
        have h5 : inB m.slot (leastI (useI m.k) m.k) 1099511627776 = true := h5
        rw [inB_t, hle] at h5
        by_cases ho : oneK m.k = true
        · rw [if_pos ho] at h5; exact ⟨by omega, h5.2, fun _ => h5.1⟩
        · rw [if_neg ho] at h5; exact ⟨h5.1, h5.2, fun q => absurd q ho⟩
      · have hb2 := Bool.eq_false_iff.2 hb
        rw [hb2] at g2
        have g2 : (m.slot == 0) = true := g2
        have : m.slot = 0 := by simpa using g2
        exact ⟨by omega, by omega, fun q => absurd (one_slot m.k q) hb⟩
    exact ⟨by simpa using h0, h1, h2, h3, g1, g2, g3, g4, g5, g6, g7, g8, g9, of_decide_eq_true h8, ⟨hs.1, hs.2.1⟩, h6, h7, hs.2.2⟩
  · intro q
    refine ⟨by simpa using q.u0, q.f, q.t, q.e, ⟨q.b, q.s, q.l, q.ti, q.v, q.o, q.c, q.rr, q.d⟩, ?_, q.l1, q.t1, decide_eq_true q.dl⟩
    by_cases hb : ub (useI m.k) 2 = true
    · rw [hb]
      show inB m.slot (leastI (useI m.k) m.k) 1099511627776 = true
      rw [inB_t, hle]
      refine ⟨?_, q.s1.2⟩
      by_cases ho : oneK m.k = true
      · rw [if_pos ho]; exact q.one ho
      · rw [if_neg ho]; exact q.s1.1
    · rw [Bool.eq_false_iff.2 hb]; rfl
theorem uses_eq (k : Int) : ((usesS k).toList == (⟨#[]⟩ : ByteArray).toList) = (useI k == 0) := by
  rcases kcases k with rfl | rfl | rfl | rfl | rfl | rfl | rfl | rfl | rfl | rfl | rfl | rfl | rfl | rfl | ⟨h, h2, _⟩
  all_goals first | (rw [h, h2]; simp) | simp [usesS, usL, useI, ByteArray.toList, ByteArray.toList.loop, ByteArray.size, ByteArray.get!]
theorem gt_zero (n : Nat) : decide ((n : Int) > 0) = !(decide (n = 0)) := by rw [Bool.eq_iff_iff]; simp; omega
theorem v_zero {m : Ms} : ((m.p.v.k == 0) && (decide (m.p.v.cs.length = 0) && decide (m.p.v.ns.length = 0))) = true ↔ m.p.v = vz := by
  simp only [Bool.and_eq_true, beq_iff_eq, decide_eq_true_eq, List.length_eq_zero_iff]
  constructor
  · rintro ⟨h1, h2, h3⟩
    cases hv : m.p.v with
    | mk k cs ns => rw [hv] at h1 h2 h3; subst h1; subst h2; subst h3; rfl
  · intro h; rw [h]; exact ⟨rfl, rfl, rfl⟩
section
variable {C : Cfg} {ρ : Env} {pre : List Nat} {hx : HX} {L : Stack} {x z : BE} {T bad : Tree}
theorem br_or (c zc : Bool) (hx' : x.den ρ = !c) (hz : z.den ρ = !zc) (hbad : c = false → zc = false → bad.holds C ρ pre hx L) (h : (c || zc) = true → T.holds C ρ pre hx L) : (Tree.br x (Tree.br z bad T) T).holds C ρ pre hx L := by
  refine br_B (!c) hx' (fun h1 => ?_) (fun h1 => h (by rw [show c = true by simpa using h1]; rfl))
  have h1 : c = false := by simpa using h1
  refine br_B (!zc) hz (fun h2 => hbad h1 (by simpa using h2)) (fun h2 => h (by rw [show zc = true by simpa using h2, Bool.or_true]))
end
set_option maxHeartbeats 2000000 in
theorem rplain_any (m : Ms) (w : World) (H : m.X.X w) (hfit : MsFit m) : Calls Try.prog 34 #[m.val] w (PureAt w (.bool (plainP m))) := by
  obtain ⟨u, eu⟩ : ∃ x, x = useI m.k := ⟨_, rfl⟩
  obtain ⟨s, es⟩ : ∃ x, x = usesS m.k := ⟨_, rfl⟩
  have hsl : s.data.toList.length ≤ 1000 := by rw [es]; exact uses_len m.k
  obtain ⟨B, eB⟩ : ∃ x, x = m.X := ⟨_, rfl⟩
  have BX : ∀ {w}, B.X w → m.X.X w := fun h => by rw [← eB]; exact h
  have bad : ∀ {m2 : Mem} {ρ : Env} {hx : HX} {S : Stack}, ¬ PlR m → (Tree.done (.lf (.bool (.lit false))) m2).holds ⟨Try.prog, w, fun _ => False, PureAt w (.bool (plainP m))⟩ ρ [] hx S := fun h => pure_done fun _ => by rw [Bool.eq_false_iff.2 fun q => h ((plain_iff m).1 q)]; rfl
  refine calls_at (tab_ok _) Try.func34 rfl tRPlain (ρ := ⟨m.ints, [], [], m.nats, m.adrs⟩) (ids := []) (hx := B) rfl (Facts.initq rfl oneNil (by rw [eB]; exact H) (by rw [eB]; exact Ms.X_sep H)) ?_
  refine node_P ⟨[], [], [.string s], [], []⟩ #[.int .i64 m.k] (.string s) (by intros; kernel_rfl) (by intros; kernel_rfl) (by kernel_rfl) (by kernel_rfl) (by kernel_rfl) (fun v hv => by simp only [List.mem_singleton] at hv; subst hv; rfl) (fun ids w2 hp hf => by rw [es]; exact ruses_any m.k w2) ?_
  have hnil : (s.toList == (⟨#[]⟩ : ByteArray).toList) = (u == 0) := by rw [es, eu]; exact uses_eq m.k
  refine node_bin (x := .string s) (y := .string ⟨#[]⟩) (V := .bool (s.toList == (⟨#[]⟩ : ByteArray).toList)) ⟨[], [s.toList == (⟨#[]⟩ : ByteArray).toList], [], [], []⟩ (by intros; kernel_rfl) (by intros; kernel_rfl) (fun w => by simp [eqGuard]) (fun w => by simp [binOp, Op.stringOp]) (by intros; kernel_rfl) (by kernel_rfl) (by kernel_rfl) (by kernel_rfl) oneNil ?_
  rw [hnil]
  have hz : ∀ (q : PlR m), u ≠ 0 := fun q => by rw [eu]; exact q.u0
  refine br_B (u == 0) (by kernel_rfl) (fun h => bad fun q => hz q (by simpa using h)) (fun h0 => ?_)
  refine br_D (p := m.f < 0) (by kernel_rfl) (fun h => bad fun q => by have := q.f; omega) (fun hf1 => ?_)
  refine br_D (p := m.f > 9) (by kernel_rfl) (fun h => bad fun q => by have := q.f; omega) (fun hf2 => ?_)
  refine br_D (p := m.t < 0) (by kernel_rfl) (fun h => bad fun q => by have := q.t; omega) (fun ht1 => ?_)
  refine br_D (p := m.t > 9) (by kernel_rfl) (fun h => bad fun q => by have := q.t; omega) (fun ht2 => ?_)
  refine br_D (p := m.e < 0) (by kernel_rfl) (fun h => bad fun q => by have := q.e; omega) (fun he1 => ?_)
  refine br_D (p := m.e > 1099511627776) (by kernel_rfl) (fun h => bad fun q => by have := q.e; omega) (fun he2 => ?_)
  refine ⟨fun vs hx => vs = Vals.nil ∧ (((ub u 1 || (m.r == 0 && m.n == 0)) = true ∧ (ub u 2 || (m.slot == 0)) = true) ∧ (ub u 4 || (m.low == 0)) = true ∧ (ub u 8 || (m.tm == 0)) = true) ∧ B = hx, ?_, ?_⟩
  · skip
    refine node_P ⟨[], [ub u 1], [], [], []⟩ #[.string s, .int .u8 98] (.bool (ub u 1)) (by intros; kernel_rfl) (by intros; kernel_rfl) (by kernel_rfl) (by kernel_rfl) (by kernel_rfl) oneNil (fun ids w2 hp hf => by have := has_any s 98 hsl w2; rw [show hasB s 98 = ub u 1 by rw [es, eu]; exact has_b m.k] at this; exact this) ?_
    refine br_or (ub u 1) (m.r == 0 && m.n == 0) (by kernel_rfl) (by kernel_rfl) (fun g1 g2 => bad fun q => (by have := q.b; rw [← eu, g1, g2] at this; exact absurd this (by decide))) (fun gb => ?_)
    refine node_P ⟨[], [ub u 2], [], [], []⟩ #[.string s, .int .u8 115] (.bool (ub u 2)) (by intros; kernel_rfl) (by intros; kernel_rfl) (by kernel_rfl) (by kernel_rfl) (by kernel_rfl) oneNil (fun ids w2 hp hf => by have := has_any s 115 hsl w2; rw [show hasB s 115 = ub u 2 by rw [es, eu]; exact has_s m.k] at this; exact this) ?_
    refine br_or (ub u 2) (m.slot == 0) (by kernel_rfl) (by kernel_rfl) (fun g1 g2 => bad fun q => (by have := q.s; rw [← eu, g1, g2] at this; exact absurd this (by decide))) (fun gs => ?_)
    refine node_P ⟨[], [ub u 4], [], [], []⟩ #[.string s, .int .u8 108] (.bool (ub u 4)) (by intros; kernel_rfl) (by intros; kernel_rfl) (by kernel_rfl) (by kernel_rfl) (by kernel_rfl) oneNil (fun ids w2 hp hf => by have := has_any s 108 hsl w2; rw [show hasB s 108 = ub u 4 by rw [es, eu]; exact has_l m.k] at this; exact this) ?_
    refine br_or (ub u 4) (m.low == 0) (by kernel_rfl) (by kernel_rfl) (fun g1 g2 => bad fun q => (by have := q.l; rw [← eu, g1, g2] at this; exact absurd this (by decide))) (fun gl => ?_)
    refine node_P ⟨[], [ub u 8], [], [], []⟩ #[.string s, .int .u8 116] (.bool (ub u 8)) (by intros; kernel_rfl) (by intros; kernel_rfl) (by kernel_rfl) (by kernel_rfl) (by kernel_rfl) oneNil (fun ids w2 hp hf => by have := has_any s 116 hsl w2; rw [show hasB s 116 = ub u 8 by rw [es, eu]; exact has_t m.k] at this; exact this) ?_
    refine br_or (ub u 8) (m.tm == 0) (by kernel_rfl) (by kernel_rfl) (fun g1 g2 => bad fun q => (by have := q.ti; rw [← eu, g1, g2] at this; exact absurd this (by decide))) (fun gti => ?_)
    exact again_V Vals.nil rfl (by intros; kernel_rfl) _ (fun w2 ids hf => ⟨hf.x, hf.sep⟩) ⟨rfl, ⟨⟨gb, gs⟩, gl, gti⟩, rfl⟩
  rintro vs hx hcnt ⟨rfl, ⟨⟨gb, gs⟩, gl, gti⟩, rfl⟩
  rw [Env.add_nil]
  refine ⟨fun vs hx => vs = Vals.nil ∧ ((ub u 16 || ((m.p.v.k == 0) && (decide (m.p.v.cs.length = 0) && decide (m.p.v.ns.length = 0)))) = true ∧ (ub u 32 || decide (m.vs.length = 0)) = true ∧ (ub u 64 || cmdEq m.c cz) = true) ∧ B = hx, ?_, ?_⟩
  · skip
    refine node_P ⟨[], [ub u 16], [], [], []⟩ #[.string s, .int .u8 118] (.bool (ub u 16)) (by intros; kernel_rfl) (by intros; kernel_rfl) (by kernel_rfl) (by kernel_rfl) (by kernel_rfl) oneNil (fun ids w2 hp hf => by have := has_any s 118 hsl w2; rw [show hasB s 118 = ub u 16 by rw [es, eu]; exact has_v m.k] at this; exact this) ?_
    refine br_B (!(ub u 16)) (by kernel_rfl) (fun h => ?A) (fun h => ?B)
    case' A =>
      have hu : ub u 16 = false := by simpa using h
      refine node_PI ⟨[], [vlSame m.p.v vz], [], [], []⟩ (fun _ => #[m.p.val, vlV vz none 0 none 0]) (.bool (vlSame m.p.v vz)) (by intros; kernel_rfl) (by intros; kernel_rfl) (by kernel_rfl) (by kernel_rfl) (by kernel_rfl) oneNil (fun ids w2 hp hf => samev_any _ _ _ _ _ vz none 0 none 0 w2 (hfit.v.at_ (BX hf.x).1.1) (vz_fit.at_ ⟨fun h => absurd h (by decide), fun h => absurd h (by decide)⟩)) ?_
      refine br_B (!(vlSame m.p.v vz)) (by kernel_rfl) (fun h2 => bad fun q => ?_) (fun h2 => ?_)
      · have := q.v
        rw [← eu, hu] at this
        have e := v_zero.1 this
        rw [vlSame_t e] at h2; cases h2
      have gv : (ub u 16 || ((m.p.v.k == 0) && (decide (m.p.v.cs.length = 0) && decide (m.p.v.ns.length = 0)))) = true := by
        have h2 : vlSame m.p.v vz = true := by simpa using h2
        rw [hu]
        refine v_zero.2 ?_
        by_cases e : m.p.v = vz
        · exact e
        · rw [vlSame_f e] at h2; cases h2
    case' B =>
      have gv : (ub u 16 || ((m.p.v.k == 0) && (decide (m.p.v.cs.length = 0) && decide (m.p.v.ns.length = 0)))) = true := by rw [show ub u 16 = true by simpa using h]; rfl
    all_goals
      refine node_P ⟨[], [ub u 32], [], [], []⟩ #[.string s, .int .u8 111] (.bool (ub u 32)) (by intros; kernel_rfl) (by intros; kernel_rfl) (by kernel_rfl) (by kernel_rfl) (by kernel_rfl) oneNil (fun ids w2 hp hf => by have := has_any s 111 hsl w2; rw [show hasB s 111 = ub u 32 by rw [es, eu]; exact has_o m.k] at this; exact this) ?_
      refine br_or (ub u 32) (decide (m.vs.length = 0)) (by kernel_rfl) (by rw [← gt_zero]; kernel_rfl) (fun g1 g2 => bad fun q => (by have := q.o; rw [← eu, g1, g2] at this; exact absurd this (by decide))) (fun go => ?_)
      refine node_P ⟨[], [ub u 64], [], [], []⟩ #[.string s, .int .u8 99] (.bool (ub u 64)) (by intros; kernel_rfl) (by intros; kernel_rfl) (by kernel_rfl) (by kernel_rfl) (by kernel_rfl) oneNil (fun ids w2 hp hf => by have := has_any s 99 hsl w2; rw [show hasB s 99 = ub u 64 by rw [es, eu]; exact has_c m.k] at this; exact this) ?_
      refine br_or (ub u 64) (cmdEq m.c cz) (by kernel_rfl) (by kernel_rfl) (fun g1 g2 => bad fun q => (by have := q.c; rw [← eu, g1, g2] at this; exact absurd this (by decide))) (fun gc => ?_)
      exact again_V Vals.nil rfl (by intros; kernel_rfl) _ (fun w2 ids hf => ⟨hf.x, hf.sep⟩) ⟨rfl, ⟨gv, go, gc⟩, rfl⟩
  rintro vs hx hcnt2 ⟨rfl, ⟨gv, go, gc⟩, rfl⟩
  rw [Env.add_nil]
  refine ⟨fun vs hx => vs = Vals.nil ∧ ((ub u 128 || ((m.rk == 0) && ((m.re == 0) && (m.im == 0)))) = true ∧ (ub u 256 || decide (m.d.length = 0)) = true ∧ (m.d.length : Int) ≤ 1024) ∧ B = hx, ?_, ?_⟩
  · skip
    refine node_P ⟨[], [ub u 128], [], [], []⟩ #[.string s, .int .u8 114] (.bool (ub u 128)) (by intros; kernel_rfl) (by intros; kernel_rfl) (by kernel_rfl) (by kernel_rfl) (by kernel_rfl) oneNil (fun ids w2 hp hf => by have := has_any s 114 hsl w2; rw [show hasB s 114 = ub u 128 by rw [es, eu]; exact has_r m.k] at this; exact this) ?_
    refine br_or (ub u 128) ((m.rk == 0) && ((m.re == 0) && (m.im == 0))) (by kernel_rfl) (by kernel_rfl) (fun g1 g2 => bad fun q => (by have := q.rr; rw [← eu, g1, g2] at this; exact absurd this (by decide))) (fun grr => ?_)
    refine node_P ⟨[], [ub u 256], [], [], []⟩ #[.string s, .int .u8 100] (.bool (ub u 256)) (by intros; kernel_rfl) (by intros; kernel_rfl) (by kernel_rfl) (by kernel_rfl) (by kernel_rfl) oneNil (fun ids w2 hp hf => by have := has_any s 100 hsl w2; rw [show hasB s 100 = ub u 256 by rw [es, eu]; exact has_d m.k] at this; exact this) ?_
    refine br_or (ub u 256) (decide (m.d.length = 0)) (by kernel_rfl) (by rw [← gt_zero]; kernel_rfl) (fun g1 g2 => bad fun q => (by have := q.d; rw [← eu, g1, g2] at this; exact absurd this (by decide))) (fun gd => ?_)
    refine br_D (p := (m.d.length : Int) > 1024) (by kernel_rfl) (fun h => bad fun q => by have := q.dl; omega) (fun hdl => ?_)
    exact again_V Vals.nil rfl (by intros; kernel_rfl) _ (fun w2 ids hf => ⟨hf.x, hf.sep⟩) ⟨rfl, ⟨grr, gd, by omega⟩, rfl⟩
  rintro vs hx hcnt3 ⟨rfl, ⟨grr, gd, gdl⟩, rfl⟩
  rw [Env.add_nil]
  refine br_D (p := m.slot < 0) (by kernel_rfl) (fun h => bad fun q => by have := q.s1; omega) (fun hs1 => ?_)
  refine br_D (p := m.slot > 1099511627776) (by kernel_rfl) (fun h => bad fun q => by have := q.s1; omega) (fun hs2 => ?_)
  refine br_D (p := m.low < 0) (by kernel_rfl) (fun h => bad fun q => by have := q.l1; omega) (fun hl1 => ?_)
  refine br_D (p := m.low > 1099511627776) (by kernel_rfl) (fun h => bad fun q => by have := q.l1; omega) (fun hl2 => ?_)
  refine br_D (p := m.tm < 0) (by kernel_rfl) (fun h => bad fun q => by have := q.t1; omega) (fun ht3 => ?_)
  refine br_D (p := m.tm > 1099511627776) (by kernel_rfl) (fun h => bad fun q => by have := q.t1; omega) (fun ht4 => ?_)
  have good : (oneK m.k = true → 1 ≤ m.slot) → plainP m = true := fun h => (plain_iff m).2 ⟨by rw [← eu]; simpa using h0, by omega, by omega, by omega, by rw [← eu]; exact gb, by rw [← eu]; exact gs, by rw [← eu]; exact gl, by rw [← eu]; exact gti, by rw [← eu]; exact gv, by rw [← eu]; exact go, by rw [← eu]; exact gc, by rw [← eu]; exact grr, by rw [← eu]; exact gd, gdl, by omega, by omega, by omega, h⟩
  refine ⟨fun vs hx => vs = ⟨[], [oneK m.k], [], [], []⟩ ∧ B = hx, ?_, ?_⟩
  · have yes : ∀ {m2 : Mem} {ρ : Env} {S : Stack} {es : Vec}, oneK m.k = true → (∀ ids, es.den ρ ids = ⟨[], [true], [], [], []⟩) → (Tree.again 13 es m2).holds ⟨Try.prog, w, fun _ => False, PureAt w (.bool (plainP m))⟩ ρ [] B ((13, fun vs hx => vs = ⟨[], [oneK m.k], [], [], []⟩ ∧ B = hx) :: S) := fun h hv => again_V ⟨[], [true], [], [], []⟩ rfl hv _ (fun w2 ids hf => ⟨hf.x, hf.sep⟩) ⟨by rw [h], rfl⟩
    refine br_B (m.k == 1) (by kernel_rfl) (fun h => yes (by unfold oneK; rw [h]; rfl) (by intros; kernel_rfl)) (fun h1 => ?_)
    refine br_B (m.k == 2) (by kernel_rfl) (fun h => yes (by unfold oneK; rw [h, h1]; rfl) (by intros; kernel_rfl)) (fun h2 => ?_)
    refine br_B (m.k == 4) (by kernel_rfl) (fun h => yes (by unfold oneK; rw [h, h1, h2]; rfl) (by intros; kernel_rfl)) (fun h3 => ?_)
    refine br_B (m.k == 5) (by kernel_rfl) (fun h => yes (by unfold oneK; rw [h, h1, h2, h3]; rfl) (by intros; kernel_rfl)) (fun h4 => ?_)
    refine br_B (m.k == 8) (by kernel_rfl) (fun h => yes (by unfold oneK; rw [h, h1, h2, h3, h4]; rfl) (by intros; kernel_rfl)) (fun h5 => ?_)
    have e : oneK m.k = (m.k == 9) := by unfold oneK; rw [h1, h2, h3, h4, h5]; rfl
    exact again_V ⟨[], [m.k == 9], [], [], []⟩ rfl (by intros; kernel_rfl) _ (fun w2 ids hf => ⟨hf.x, hf.sep⟩) ⟨by rw [e], rfl⟩
  rintro vs hx hcnt4 ⟨rfl, rfl⟩
  refine br_B (!(oneK m.k)) (by kernel_rfl) (fun h => ?_) (fun h => ?_)
  · rw [good fun q => by rw [q] at h; cases h]
    exact pure_done (by intros; kernel_rfl)
  · have e : plainP m = decide (m.slot ≥ 1) := by
      by_cases q : m.slot ≥ 1
      · rw [decide_eq_true q]; exact good fun _ => q
      · rw [decide_eq_false q]; exact Bool.eq_false_iff.2 fun z => q (((plain_iff m).1 z).one (by simpa using h))
    rw [e]
    exact pure_done (by intros; kernel_rfl)
end Go.Proofs.Ytadgaefmoobcoaa

namespace Go.Proofs.Ytadgaefmoobcoaa
open Go.ChangeShapes Go.WideShapes Go.ChangeAt Go.RowKit Go.Syn Go.Eng
set_option linter.unusedVariables false
set_option linter.unusedSimpArgs false
set_option maxRecDepth 100000
def rgV (re im : Int) : Value := .agg #[.int .i64 re, .int .i64 im, .int .i64 0, .int .i64 0, .int .i64 0, .int .i64 0, .int .i64 0, .int .i64 0, .int .i64 0, .int .i64 0, .int .i64 0, .int .i64 0, .int .i64 0, .int .i64 0, .int .i64 0, .int .i64 0]
theorem fit_in (re im : Int) : fitB re im = (inB re (-1048576) 1048576 && inB im (-1048576) 1048576) := by
  rw [Bool.eq_iff_iff, Bool.and_eq_true, inB_t, inB_t]
  unfold fitB
  simp
  omega
theorem r3_any (re im : Int) (w : World) : Calls Try.prog 70 #[.int .i64 re, .int .i64 im] w (PureAt w (.bool (fitB re im))) := (ref03_any re im w).mono fun e w' h => ⟨h.1, h.2 ▸ Below.refl _ _⟩
theorem r4valid_any (re im : Int) (w : World) : Calls Try.prog 39 #[rgV re im] w (PureAt w (.bool (fitB re im))) := by
  refine calls_at (tab_ok _) Try.func39 rfl tR4Valid (ρ := ⟨[re, im], [], [], [], []⟩) (ids := []) rfl (Facts.initP rfl oneNil) ?_
  refine node_P ⟨[], [fitB re im], [], [], []⟩ #[.int .i64 re, .int .i64 im] (.bool (fitB re im)) (by intros; kernel_rfl) (by intros; kernel_rfl) (by kernel_rfl) (by kernel_rfl) (by kernel_rfl) oneNil (fun ids w2 hp hf => r3_any re im w2) ?_
  refine br_B (!(fitB re im)) (by kernel_rfl) (fun h => pure_done fun _ => by rw [show fitB re im = false by simpa using h]; rfl) (fun h => ?_)
  rw [show fitB re im = true by simpa using h]
  have h0 : fitB 0 0 = true := by kernel_rfl
  iterate 7
    refine node_P ⟨[], [fitB 0 0], [], [], []⟩ #[.int .i64 0, .int .i64 0] (.bool (fitB 0 0)) (by intros; kernel_rfl) (by intros; kernel_rfl) (by kernel_rfl) (by kernel_rfl) (by kernel_rfl) oneNil (fun ids w2 hp hf => r3_any 0 0 w2) ?_
    rw [h0]
    refine br_F false (by kernel_rfl) rfl ?_
  exact pure_done (by intros; kernel_rfl)
set_option maxHeartbeats 1000000 in
theorem rmchk_any (m : Ms) (w : World) (H : m.X.X w) (hfit : MsFit m) (hI : ∀ x ∈ m.vs, I64 x.s) : Calls Try.prog 12 #[m.val] w (PureAt w (.int .i64 (chkM m))) := by
  obtain ⟨u, eu⟩ : ∃ x, x = useI m.k := ⟨_, rfl⟩
  obtain ⟨s, es⟩ : ∃ x, x = usesS m.k := ⟨_, rfl⟩
  have hsl : s.data.toList.length ≤ 1000 := by rw [es]; exact uses_len m.k
  obtain ⟨B, eB⟩ : ∃ x, x = m.X := ⟨_, rfl⟩
  have BX : ∀ {w}, B.X w → m.X.X w := fun h => by rw [← eB]; exact h
  have hh : ∀ (c bit : Int), hasB s c = ub u bit → ∀ w, Calls Try.prog 35 #[.string s, .int .u8 c] w (PureAt w (.bool (ub u bit))) := fun c bit h w => by rw [← h]; exact has_any s c hsl w
  refine calls_at (tab_ok _) Try.func12 rfl tRMChk (ρ := ⟨m.ints, [], [], m.nats, m.adrs⟩) (ids := []) (hx := B) rfl (Facts.initq rfl oneNil (by rw [eB]; exact H) (by rw [eB]; exact Ms.X_sep H)) ?_
  refine node_PI ⟨[], [plainP m], [], [], []⟩ (fun _ => #[m.val]) (.bool (plainP m)) (by intros; kernel_rfl) (by intros; kernel_rfl) (by kernel_rfl) (by kernel_rfl) (by kernel_rfl) oneNil (fun ids w2 hp hf => rplain_any m w2 (BX hf.x) hfit) ?_
  refine br_B (!(plainP m)) (by kernel_rfl) (fun h => pure_done fun _ => by unfold chkM; rw [if_neg (by rw [show plainP m = false by simpa using h]; decide)]; rfl) (fun h => ?_)
  have hpl : plainP m = true := by simpa using h
  have hrest : chkM m = if (ub u 1 && !(balB m.r m.n)) = true then 27 else if ub u 16 = true then valE m.p.v else if ub u 32 = true then chkVs m.slot (vlsOf m.vs) else if ub u 64 = true ∧ cmdX m ≠ 0 then cmdX m else if (ub u 128 && !(resB m)) = true then 26 else 0 := by unfold chkM; rw [if_pos hpl, eu]; rfl
  rw [hrest]
  refine node_P ⟨[], [], [.string s], [], []⟩ #[.int .i64 m.k] (.string s) (by intros; kernel_rfl) (by intros; kernel_rfl) (by kernel_rfl) (by kernel_rfl) (by kernel_rfl) (fun v hv => by simp only [List.mem_singleton] at hv; subst hv; rfl) (fun ids w2 hp hf => by rw [es]; exact ruses_any m.k w2) ?_
  refine ⟨fun vs hx => vs = Vals.nil ∧ (ub u 1 && !(balB m.r m.n)) = false ∧ B = hx, ?_, ?_⟩
  · refine node_P ⟨[], [ub u 1], [], [], []⟩ #[.string s, .int .u8 98] (.bool (ub u 1)) (by intros; kernel_rfl) (by intros; kernel_rfl) (by kernel_rfl) (by kernel_rfl) (by kernel_rfl) oneNil (fun ids w2 hp hf => hh 98 1 (by rw [es, eu]; exact has_b m.k) w2) ?_
    refine br_B (ub u 1) (by kernel_rfl) (fun h => ?_) (fun h => again_V Vals.nil rfl (by intros; kernel_rfl) _ (fun w2 ids hf => ⟨hf.x, hf.sep⟩) ⟨rfl, by rw [h]; rfl, rfl⟩)
    refine node_P ⟨[], [balB m.r m.n], [], [], []⟩ #[.agg #[.int .i64 m.r, .int .i64 m.n]] (.bool (balB m.r m.n)) (by intros; kernel_rfl) (by intros; kernel_rfl) (by kernel_rfl) (by kernel_rfl) (by kernel_rfl) oneNil (fun ids w2 hp hf => rvalid_any m.r m.n w2) ?_
    refine br_B (!(balB m.r m.n)) (by kernel_rfl) (fun h2 => pure_done fun _ => by rw [if_pos (by rw [h, h2]; rfl)]; rfl) (fun h2 => again_V Vals.nil rfl (by intros; kernel_rfl) _ (fun w2 ids hf => ⟨hf.x, hf.sep⟩) ⟨rfl, by rw [h2, Bool.and_false], rfl⟩)
  rintro vs hx hcnt3 ⟨rfl, hb, rfl⟩
  rw [Env.add_nil, if_neg (by rw [hb]; decide)]
  refine node_P ⟨[], [ub u 16], [], [], []⟩ #[.string s, .int .u8 118] (.bool (ub u 16)) (by intros; kernel_rfl) (by intros; kernel_rfl) (by kernel_rfl) (by kernel_rfl) (by kernel_rfl) oneNil (fun ids w2 hp hf => hh 118 16 (by rw [es, eu]; exact has_v m.k) w2) ?_
  refine br_B (ub u 16) (by kernel_rfl) (fun h => ?_) (fun h => ?_)
  · rw [if_pos h]
    refine node_PI ⟨[valE m.p.v], [], [], [], []⟩ (fun _ => #[m.p.val]) (.int .i64 (valE m.p.v)) (by intros; kernel_rfl) (by intros; kernel_rfl) (by kernel_rfl) (by kernel_rfl) (by kernel_rfl) oneNil (fun ids w2 hp hf => rchk_any _ _ _ _ _ w2 (hfit.v.at_ (BX hf.x).1.1)) ?_
    exact pure_done (by intros; kernel_rfl)
  rw [if_neg (by rw [h]; decide)]
  refine node_P ⟨[], [ub u 32], [], [], []⟩ #[.string s, .int .u8 111] (.bool (ub u 32)) (by intros; kernel_rfl) (by intros; kernel_rfl) (by kernel_rfl) (by kernel_rfl) (by kernel_rfl) oneNil (fun ids w2 hp hf => hh 111 32 (by rw [es, eu]; exact has_o m.k) w2) ?_
  refine br_B (ub u 32) (by kernel_rfl) (fun h2 => ?_) (fun h2 => ?_)
  · rw [if_pos h2]
    refine node_PI ⟨[chkVs m.slot (vlsOf m.vs)], [], [], [], []⟩ (fun _ => #[.slice m.av m.vs.length m.cv, .int .i64 m.slot]) (.int .i64 (chkVs m.slot (vlsOf m.vs))) (by intros; kernel_rfl) (by intros; kernel_rfl) (by kernel_rfl) (by kernel_rfl) (by kernel_rfl) oneNil (fun ids w2 hp hf => rchkvs_any m.cv m.slot w2 (BX hf.x).1.2 hfit.vs hI) ?_
    exact pure_done (by intros; kernel_rfl)
  rw [if_neg (by rw [h2]; decide)]
  -- the command
  have k14 : m.k = 14 → ub u 64 = true := fun h => by rw [eu, h]; rfl
  have k64 : ub u 64 = true → m.k = 13 ∨ m.k = 14 := fun h => by
    rw [eu] at h
    rcases kcases m.k with q | q | q | q | q | q | q | q | q | q | q | q | q | q | ⟨q, _⟩
    all_goals first | exact .inl q | exact .inr q | (rw [q] at h; exact absurd h (by decide))
  refine ⟨fun vs hx => ∃ c : CmD, vs = ⟨[c.sess, c.seq, c.ack, c.op.kind, c.op.reg, c.op.tg, c.op.re, c.op.im], [], [], [], []⟩ ∧ (ub u 64 = true → cmdX m = cmdV c) ∧ B = hx, ?_, ?_⟩
  · have nx : ub u 64 = true → m.k = 14 → cmdX m = if m.c.ack ≠ 0 then 23 else if opZ m.c = false then 23 else cmdV (get1 m.c) := fun _ h => by unfold cmdX; rw [if_neg (by omega)]
    refine br_D (p := m.k = 14) (by kernel_rfl) (fun h3 => ?_) (fun h3 => ?_)
    · have hX := nx (k14 h3) h3
      refine br_D (p := m.c.ack ≠ 0) (by show (m.c.ack != 0) = _; rw [Bool.eq_iff_iff]; simp) (fun h4 => pure_done fun _ => ?_) (fun h4 => ?_)
      · rw [if_pos h4] at hX
        rw [if_pos ⟨k14 h3, by rw [hX]; decide⟩, hX]; rfl
      rw [if_neg h4] at hX
      refine br_B (!(opZ m.c)) (by kernel_rfl) (fun h5 => pure_done fun _ => ?_) (fun h5 => ?_)
      · rw [if_pos (by simpa using h5)] at hX
        rw [if_pos ⟨k14 h3, by rw [hX]; decide⟩, hX]; rfl
      have hz : opZ m.c = true := by simpa using h5
      rw [if_neg (by rw [hz]; decide)] at hX
      refine again_V ⟨[m.c.sess, m.c.seq, m.c.ack, 1, m.c.op.reg, m.c.op.tg, m.c.op.re, m.c.op.im], [], [], [], []⟩ rfl (by intros; kernel_rfl) _ (fun w2 ids hf => ⟨hf.x, hf.sep⟩) ⟨get1 m.c, ?_, fun _ => hX, rfl⟩
      unfold opZ at hz
      simp only [Bool.and_eq_true, beq_iff_eq] at hz
      obtain ⟨z1, z2, z3, z4, z5⟩ := hz
      rw [z2, z3, z4, z5]; rfl
    · exact again_V ⟨[m.c.sess, m.c.seq, m.c.ack, m.c.op.kind, m.c.op.reg, m.c.op.tg, m.c.op.re, m.c.op.im], [], [], [], []⟩ rfl (by intros; kernel_rfl) _ (fun w2 ids hf => ⟨hf.x, hf.sep⟩) ⟨m.c, rfl, fun q => by unfold cmdX; rw [if_pos ((k64 q).resolve_right h3)], rfl⟩
  rintro vs hx hcnt4 ⟨c, rfl, hcx, rfl⟩
  refine ⟨fun vs hx => vs = Vals.nil ∧ ¬ (ub u 64 = true ∧ cmdX m ≠ 0) ∧ B = hx, ?_, ?_⟩
  · refine node_P ⟨[], [ub u 64], [], [], []⟩ #[.string s, .int .u8 99] (.bool (ub u 64)) (by intros; kernel_rfl) (by intros; kernel_rfl) (by kernel_rfl) (by kernel_rfl) (by kernel_rfl) oneNil (fun ids w2 hp hf => hh 99 64 (by rw [es, eu]; exact has_c m.k) w2) ?_
    refine br_B (ub u 64) (by kernel_rfl) (fun h3 => ?_) (fun h3 => again_V Vals.nil rfl (by intros; kernel_rfl) _ (fun w2 ids hf => ⟨hf.x, hf.sep⟩) ⟨rfl, fun q => (by rw [h3] at q; cases q.1), rfl⟩)
    have hcx := hcx h3
    refine node_P ⟨[cmdV c], [], [], [], []⟩ #[.agg c.cells.toArray] (.int .i64 (cmdV c)) (by intros; kernel_rfl) (by intros; kernel_rfl) (by kernel_rfl) (by kernel_rfl) (by kernel_rfl) oneNil (fun ids w2 hp hf => rcmd_any c w2) ?_
    refine br_B (cmdV c != 0) (by kernel_rfl) (fun h4 => ?_) (fun h4 => again_V Vals.nil rfl (by intros; kernel_rfl) _ (fun w2 ids hf => ⟨hf.x, hf.sep⟩) ⟨rfl, fun q => q.2 (by rw [hcx]; simpa using h4), rfl⟩)
    refine node_P ⟨[cmdV c], [], [], [], []⟩ #[.agg c.cells.toArray] (.int .i64 (cmdV c)) (by intros; kernel_rfl) (by intros; kernel_rfl) (by kernel_rfl) (by kernel_rfl) (by kernel_rfl) oneNil (fun ids w2 hp hf => rcmd_any c w2) ?_
    rw [if_pos ⟨h3, by rw [hcx]; simpa using h4⟩, hcx]
    exact pure_done (by intros; kernel_rfl)
  rintro vs hx hcnt5 ⟨rfl, hc, rfl⟩
  rw [Env.add_nil, if_neg hc]
  refine node_P ⟨[], [ub u 128], [], [], []⟩ #[.string s, .int .u8 114] (.bool (ub u 128)) (by intros; kernel_rfl) (by intros; kernel_rfl) (by kernel_rfl) (by kernel_rfl) (by kernel_rfl) oneNil (fun ids w2 hp hf => hh 114 128 (by rw [es, eu]; exact has_r m.k) w2) ?_
  refine br_B (ub u 128) (by kernel_rfl) (fun h3 => ?_) (fun h3 => pure_done fun _ => by rw [if_neg (by rw [h3]; exact Bool.false_ne_true)]; rfl)
  have hr : resB m = (inB m.rk 1 9 && fitB m.re m.im) := by rw [fit_in]; rfl
  have nok : resB m = false → ∀ {m2 : Mem} {ρ : Env} {hx : HX} {S : Stack}, (Tree.done (.lf (.int .i64 (.lit 26))) m2).holds ⟨Try.prog, w, fun _ => False, PureAt w (.int .i64 (if (ub u 128 && !(resB m)) = true then 26 else 0))⟩ ρ [] hx S := fun h => pure_done fun _ => by rw [if_pos (by rw [h3, h]; rfl)]; rfl
  refine br_D (p := m.rk < 1) (by kernel_rfl) (fun h4 => nok ?_) (fun h4 => ?_)
  · rw [hr, show inB m.rk 1 9 = false from Bool.eq_false_iff.2 fun q => by have := inB_t.1 q; omega]; rfl
  refine br_D (p := m.rk > 9) (by kernel_rfl) (fun h5 => nok ?_) (fun h5 => ?_)
  · rw [hr, show inB m.rk 1 9 = false from Bool.eq_false_iff.2 fun q => by have := inB_t.1 q; omega]; rfl
  have h6 : inB m.rk 1 9 = true := inB_t.2 (by omega)
  rw [h6, Bool.true_and] at hr
  refine node_P ⟨[], [resB m], [], [], []⟩ #[rgV m.re m.im] (.bool (resB m)) (by intros; kernel_rfl) (by intros; kernel_rfl) (by kernel_rfl) (by kernel_rfl) (by kernel_rfl) oneNil (fun ids w2 hp hf => by rw [hr]; exact r4valid_any m.re m.im w2) ?_
  refine br_B (!(resB m)) (by kernel_rfl) (fun h7 => nok (by simpa using h7)) (fun h7 => pure_done fun _ => by rw [if_neg (by rw [h7, Bool.and_false]; decide)]; rfl)
end Go.Proofs.Ytadgaefmoobcoaa
