/- Sessions: nodes for Ask, Keep, Valid; the head of the laws. -/
import Derived.Test.YthgkgllllomeeaaSeG
import Derived.Test.YthgkgllllomeeaaSeW
namespace Go.Proofs.Ythgkgllllomeeaa
open Go.ChangeShapes Go.WideShapes Go.ChangeAt Go.RowKit Go.Syn Go.Eng
set_option linter.unusedVariables false
set_option linter.unusedSimpArgs false
set_option maxRecDepth 100000
theorem scmd_any (x y z : Int) (w : World) : Calls Try.prog 17 #[.int .i64 x, .int .i64 y, .int .i64 z] w (PureAt w (cmdC x y z 1 0 0 0 0)) := by
  refine calls_at (tab_ok _) Try.func17 rfl tSCmd (ρ := ⟨[x, y, z], [], [], [], []⟩) (ids := []) rfl (Facts.initP rfl oneNil) ?_
  exact pure_done (by intros; kernel_rfl)
theorem tbAt_nil (w : World) (a : Option Addr) : TbAt w a [] := ⟨fun h => by simp [secells] at h, fun e he => by cases he⟩
section
variable {W : World} {M : Nat → Prop} {RR : Ending → World → Prop} {ρ : Env} {pre : List Nat} {hx : HX} {L : Stack} {m m' : Mem} {args : List SV} {r : SV} {t : Tree}
theorem node_cmd (x y z : Int) (hargs : ∀ ids, (args.map (SV.den ρ ids)).toArray = #[.int .i64 x, .int .i64 y, .int .i64 z]) (hr : ∀ ids, r.den (ρ.add ⟨[x, y, z, 1, 0, 0, 0, 0], [], [], [], []⟩) ids = cmdC x y z 1 0 0 0 0) (hhp : m'.hp = m.hp) (hfit : hpFits m.c m.hp.length m.hp = true) (hc : (ρ.add ⟨[x, y, z, 1, 0, 0, 0, 0], [], [], [], []⟩).cnt = m'.c)
    (h : t.holds ⟨Try.prog, W, M, RR⟩ (ρ.add ⟨[x, y, z, 1, 0, 0, 0, 0], [], [], [], []⟩) pre hx L) : (Tree.call 17 args m r m' t).holds ⟨Try.prog, W, M, RR⟩ ρ pre hx L :=
  node_P ⟨[x, y, z, 1, 0, 0, 0, 0], [], [], [], []⟩ #[.int .i64 x, .int .i64 y, .int .i64 z] (cmdC x y z 1 0 0 0 0) hargs hr hhp hfit hc oneNil (fun ids w2 hp hf => scmd_any x y z w2) h
theorem node_ask (sa : List Nat → Option Addr) (n cap : Nat) (es : List SE) (sess seq ack o1 o2 o3 o4 o5 : Int) (R : AskR) (hargs : ∀ ids, (args.map (SV.den ρ ids)).toArray = #[.slice (sa ids) n cap, cmdC sess seq ack o1 o2 o3 o4 o5]) (hn : n = es.length)
    (hat : ∀ ids w, pre <+: ids → Facts ⟨Try.prog, W, M, RR⟩ m ρ ids hx w → TbAt w (sa ids) es) (hok : TOk (es.map SE.s)) (hR : askV (es.map SE.s) sess seq ack = R)
    (hr : ∀ a' n' c' ids, r.den (ρ.add ⟨[R.k, R.re, R.im], [R.d], [], [n', c'], [a']⟩) ids = askRet R.k R.re R.im R.d (.slice a' n' c')) (hhp : m'.hp = m.hp) (hfit : hpFits m.c m.hp.length m.hp = true) (hc : ∀ a' n' c', (ρ.add ⟨[R.k, R.re, R.im], [R.d], [], [n', c'], [a']⟩).cnt = m'.c)
    (h : ∀ a' c' es', es'.map SE.s = R.t → Dj a' c' es' → Sm a' es' → (∀ k, (tabR a' c' es').F k → W.heap.size ≤ k ∧ ¬ hx.F k) → t.holds ⟨Try.prog, W, M, RR⟩ (ρ.add ⟨[R.k, R.re, R.im], [R.d], [], [es'.length, c'], [a']⟩) pre (hx.and (tabR a' c' es')) L) :
    (Tree.call 8 args m r m' t).holds ⟨Try.prog, W, M, RR⟩ ρ pre hx L := by
  subst hn
  refine node_tb (V := askRet R.k R.re R.im R.d) (tb := R.t) (fun ids => #[.slice (sa ids) es.length cap, cmdC sess seq ack o1 o2 o3 o4 o5]) (fun a' c' => ⟨[R.k, R.re, R.im], [R.d], [], [R.t.length, c'], [a']⟩) hargs (fun ids w2 hp hf => ?_) (fun a' c' ids => hr a' _ c' ids) hhp hfit (fun a' c' => hc a' _ c') (fun _ _ => oneNil) (fun a' c' es' q1 q2 q3 q4 => ?_)
  · have := task_any (sa ids) cap es sess seq ack o1 o2 o3 o4 o5 w2 (hat ids w2 hp hf) hok
    rw [hR] at this; exact this
  · have hl : R.t.length = es'.length := by rw [← q1, List.length_map]
    rw [hl]; exact h a' c' es' q1 q2 q3 q4
theorem node_keep (sa : List Nat → Option Addr) (n cap : Nat) (es : List SE) (sess seq ack o1 o2 o3 o4 o5 k re im : Int) (R : List SsD) (hargs : ∀ ids, (args.map (SV.den ρ ids)).toArray = #[.slice (sa ids) n cap, cmdC sess seq ack o1 o2 o3 o4 o5, .agg #[.int .i64 k, .int .i64 re, .int .i64 im]]) (hn : n = es.length)
    (hat : ∀ ids w, pre <+: ids → Facts ⟨Try.prog, W, M, RR⟩ m ρ ids hx w → TbAt w (sa ids) es) (hok : TOk (es.map SE.s)) (hR : keepV (es.map SE.s) sess seq k re im = R)
    (hr : ∀ a' n' c' ids, r.den (ρ.add ⟨[], [], [], [n', c'], [a']⟩) ids = .slice a' n' c') (hhp : m'.hp = m.hp) (hfit : hpFits m.c m.hp.length m.hp = true) (hc : ∀ a' n' c', (ρ.add ⟨[], [], [], [n', c'], [a']⟩).cnt = m'.c)
    (h : ∀ a' c' es', es'.map SE.s = R → Dj a' c' es' → Sm a' es' → (∀ k, (tabR a' c' es').F k → W.heap.size ≤ k ∧ ¬ hx.F k) → t.holds ⟨Try.prog, W, M, RR⟩ (ρ.add ⟨[], [], [], [es'.length, c'], [a']⟩) pre (hx.and (tabR a' c' es')) L) :
    (Tree.call 9 args m r m' t).holds ⟨Try.prog, W, M, RR⟩ ρ pre hx L := by
  subst hn
  refine node_tb (V := id) (tb := R) (fun ids => #[.slice (sa ids) es.length cap, cmdC sess seq ack o1 o2 o3 o4 o5, .agg #[.int .i64 k, .int .i64 re, .int .i64 im]]) (fun a' c' => ⟨[], [], [], [R.length, c'], [a']⟩) hargs (fun ids w2 hp hf => ?_) (fun a' c' ids => hr a' _ c' ids) hhp hfit (fun a' c' => hc a' _ c') (fun _ _ => oneNil) (fun a' c' es' q1 q2 q3 q4 => ?_)
  · have := tkeep_any (sa ids) cap es sess seq ack o1 o2 o3 o4 o5 k re im w2 (hat ids w2 hp hf) hok
    rw [hR] at this; exact this
  · have hl : R.length = es'.length := by rw [← q1, List.length_map]
    rw [hl]; exact h a' c' es' q1 q2 q3 q4
theorem node_valid (sa : List Nat → Option Addr) (n cap : Nat) (es : List SE) (b : Bool) (hargs : ∀ ids, (args.map (SV.den ρ ids)).toArray = #[.slice (sa ids) n cap]) (hn : n = es.length)
    (hat : ∀ ids w, pre <+: ids → Facts ⟨Try.prog, W, M, RR⟩ m ρ ids hx w → TbAt w (sa ids) es) (hl : es.length ≤ 4611686018427387904) (hb : validT (es.map SE.s) = b)
    (hr : ∀ ids, r.den (ρ.add ⟨[], [b], [], [], []⟩) ids = .bool b) (hhp : m'.hp = m.hp) (hfit : hpFits m.c m.hp.length m.hp = true) (hc : (ρ.add ⟨[], [b], [], [], []⟩).cnt = m'.c)
    (h : t.holds ⟨Try.prog, W, M, RR⟩ (ρ.add ⟨[], [b], [], [], []⟩) pre hx L) : (Tree.call 10 args m r m' t).holds ⟨Try.prog, W, M, RR⟩ ρ pre hx L := by
  subst hn
  refine node_PI ⟨[], [b], [], [], []⟩ (fun ids => #[.slice (sa ids) es.length cap]) (.bool b) hargs hr hhp hfit hc oneNil (fun ids w2 hp hf => ?_) h
  have := tvalid_any (sa ids) cap es w2 (hat ids w2 hp hf) (by omega)
  rw [hb] at this; exact this
end
theorem out_done {P : Program} {W : World} {M : Nat → Prop} {v : SV} {m : Mem} {ρ : Env} {pre : List Nat} {hx : HX} {L : Stack} {V : Value} (hM : ∀ x, ¬ M x) (hv : ∀ ids, v.den ρ ids = V) : (Tree.done v m).holds ⟨P, W, M, PureAt W V⟩ ρ pre hx L := fun ids w2 hp hf =>
  ⟨by rw [hv], (show Chg (fun _ => False) W w2 from ⟨hf.chg.os, hf.chg.tape, hf.chg.output, hf.chg.size, fun k hk _ => hf.chg.block k hk (hM k)⟩).below⟩
def ex (no : Int) : SsD := ⟨no, 0, []⟩
theorem len1 {es : List SE} {s : SsD} (h : es.map SE.s = [s]) : es.length = 1 := by
  have := congrArg List.length h
  rwa [List.length_map] at this
set_option maxHeartbeats 1000000 in
theorem head_any (w : World) : Calls Try.prog 6 #[] w (PureAt w (.bool true)) := by
  refine calls_at (tab_ok _) Try.func6 rfl tHead (ρ := ⟨[], [], [], [], []⟩) (ids := []) (hx := HX.nil) rfl (Facts.initP rfl oneNil) ?_
  refine node_cmd 5 1 0 (by intros; kernel_rfl) (by intros; kernel_rfl) (by kernel_rfl) (by kernel_rfl) (by kernel_rfl) ?_
  refine node_ask (fun ids => some ⟨idAt ids 0, 0, none⟩) 0 0 [] 5 1 0 1 0 0 0 0 ⟨[⟨5, 0, []⟩], 0, 0, 0, false⟩ (by intros; kernel_rfl) rfl (fun ids w2 hp hf => tbAt_nil _ _) VT.nil.ok (by kernel_rfl) (by intros; kernel_rfl) (by kernel_rfl) (by kernel_rfl) (by intros; kernel_rfl) ?_
  intro a1 c1 e1 hm1 _ _ _
  refine node_cmd 5 1 0 (by intros; kernel_rfl) (by intros; kernel_rfl) (by kernel_rfl) (by kernel_rfl) (by kernel_rfl) ?_
  have ok1 : TOk (e1.map SE.s) := by rw [hm1]; exact (VT.ok ((validT_iff _).1 (by kernel_rfl)))
  refine node_keep (fun _ => a1) e1.length c1 e1 5 1 0 1 0 0 0 0 1 3 0 [⟨5, 0, [⟨1, 1, 3, 0⟩]⟩] (by intros; kernel_rfl) rfl (fun ids w2 hp hf => tabR_at hf.x.2) ok1 (by rw [hm1]; kernel_rfl) (by intros; kernel_rfl) (by kernel_rfl) (by kernel_rfl) (by intros; kernel_rfl) ?_
  intro a2 c2 e2 hm2 _ _ _
  refine node_cmd 5 1 0 (by intros; kernel_rfl) (by intros; kernel_rfl) (by kernel_rfl) (by kernel_rfl) (by kernel_rfl) ?_
  have ok2 : TOk (e2.map SE.s) := by rw [hm2]; exact (VT.ok ((validT_iff _).1 (by kernel_rfl)))
  refine node_ask (fun _ => a2) e2.length c2 e2 5 1 0 1 0 0 0 0 ⟨[⟨5, 0, [⟨1, 1, 3, 0⟩]⟩], 1, 3, 0, true⟩ (by intros; kernel_rfl) rfl (fun ids w2 hp hf => tabR_at hf.x.2) ok2 (by rw [hm2]; kernel_rfl) (by intros; kernel_rfl) (by kernel_rfl) (by kernel_rfl) (by intros; kernel_rfl) ?_
  intro a3 c3 e3 hm3 _ _ _
  refine node_cmd 5 2 1 (by intros; kernel_rfl) (by intros; kernel_rfl) (by kernel_rfl) (by kernel_rfl) (by kernel_rfl) ?_
  have ok3 : TOk (e3.map SE.s) := by rw [hm3]; exact (VT.ok ((validT_iff _).1 (by kernel_rfl)))
  refine node_ask (fun _ => a3) e3.length c3 e3 5 2 1 1 0 0 0 0 ⟨[⟨5, 1, []⟩], 0, 0, 0, false⟩ (by intros; kernel_rfl) rfl (fun ids w2 hp hf => tabR_at hf.x.2) ok3 (by rw [hm3]; kernel_rfl) (by intros; kernel_rfl) (by kernel_rfl) (by kernel_rfl) (by intros; kernel_rfl) ?_
  intro a4 c4 e4 hm4 _ _ _
  refine node_cmd 5 1 0 (by intros; kernel_rfl) (by intros; kernel_rfl) (by kernel_rfl) (by kernel_rfl) (by kernel_rfl) ?_
  have ok4 : TOk (e4.map SE.s) := by rw [hm4]; exact (VT.ok ((validT_iff _).1 (by kernel_rfl)))
  refine node_ask (fun _ => a4) e4.length c4 e4 5 1 0 1 0 0 0 0 ⟨[⟨5, 1, []⟩], 4, 0, 0, true⟩ (by intros; kernel_rfl) rfl (fun ids w2 hp hf => tabR_at hf.x.2) ok4 (by rw [hm4]; kernel_rfl) (by intros; kernel_rfl) (by kernel_rfl) (by kernel_rfl) (by intros; kernel_rfl) ?_
  intro a5 c5 e5 hm5 _ _ _
  refine br_t (by kernel_rfl) (br_t (by kernel_rfl) (br_t (by kernel_rfl) (br_t (by kernel_rfl) (br_t (by kernel_rfl) (br_t (by kernel_rfl) ?_)))))
  refine node_valid (fun _ => a3) e3.length c3 e3 true (by intros; kernel_rfl) rfl (fun ids w2 hp hf => tabR_at hf.x.1.1.2) (by rw [len1 hm3]; decide) (by rw [hm3]; kernel_rfl) (by intros; kernel_rfl) (by kernel_rfl) (by kernel_rfl) (by kernel_rfl) ?_
  refine br_t (by kernel_rfl) ?_
  refine out_done (fun _ => id) (fun ids => ?_)
  refine Eq.trans (b := .bool ((e3.length : Int) == 1)) (by kernel_rfl) ?_
  rw [len1 hm3]; rfl
end Go.Proofs.Ythgkgllllomeeaa
