/- The reference of layer 6: bytes of a command. -/
import Derived.Test.YticacnankpaohaaValM
import Derived.Test.YticacnankpaohaaQvT
namespace Go.Proofs.Yticacnankpaohaa
open Go.ChangeShapes Go.WideShapes Go.ChangeAt Go.RowKit Go.Syn Go.Eng
set_option linter.unusedVariables false
set_option linter.unusedSimpArgs false
set_option maxRecDepth 100000
section
variable {C : Cfg} {ρ : Env} {pre : List Nat} {hx : HX} {L : Stack} {m m1 m2 : Mem} {args : List SV} {r r2 : SV} {t : Tree} {ty : Nat} {ps : List (Nat × SV)}
/-- 'append(b, f()...)': bytes behind bytes. -/
theorem node_cat {f : Nat} {so xo : Operand} {ac : Go.Call} {a : Option Addr} {cap : Nat} {bs bs2 : List Int} (AS : List Nat → Array Value) (hargs : ∀ ids, (args.map (SV.den ρ ids)).toArray = AS ids) (hrow : ∀ w, hx.X w → (frow a cap bs).X w) (hrf : ∀ k, cap ≠ 0 → abk a = some k → hx.F k)
    (hcall : ∀ ids w, pre <+: ids → Facts C m ρ ids hx w → Calls C.P f (AS ids) w (NewO w id bs2)) (hP : C.P = Try.prog) (hac : ac = { callee := .builtin .append, args := #[so, xo], argTypes := #[38, 38] })
    (hr : ∀ a2 c2 ids, r.den (ρ.add ⟨[], [], [], [bs2.length, c2], [a2]⟩) ids = .slice a2 bs2.length c2) (hhp : m1.hp = m.hp) (hfit : hpFits m.c m.hp.length m.hp = true) (hc : ∀ a2 c2, (ρ.add ⟨[], [], [], [bs2.length, c2], [a2]⟩).cnt = m1.c)
    (hso : ∀ a2 c2 ids, envOf (ρ.add ⟨[], [], [], [bs2.length, c2], [a2]⟩) ids ps so = .slice a bs.length cap) (hxo : ∀ a2 c2 ids, envOf (ρ.add ⟨[], [], [], [bs2.length, c2], [a2]⟩) ids ps xo = .slice a2 bs2.length c2)
    (hM : ∀ k, cap ≠ 0 → abk a = some k → C.W.heap.size ≤ k ∨ C.M k) (h63 : bs.length + bs2.length ≤ 140737488355328)
    (hr2 : ∀ a2 c2 a' c' ids, r2.den ((ρ.add ⟨[], [], [], [bs2.length, c2], [a2]⟩).add ⟨[], [], [], [bs.length + bs2.length, c'], [a']⟩) ids = .slice a' (bs.length + bs2.length) c') (hhp2 : m2.hp = m1.hp) (hfit2 : hpFits m1.c m1.hp.length m1.hp = true) (hc2 : ∀ a2 c2 a' c', ((ρ.add ⟨[], [], [], [bs2.length, c2], [a2]⟩).add ⟨[], [], [], [bs.length + bs2.length, c'], [a']⟩).cnt = m2.c)
    (h : ∀ a2 c2 a' c', (∀ k, c' ≠ 0 → abk a' = some k → (cap ≠ 0 ∧ abk a = some k) ∨ C.W.heap.size ≤ k) → t.holds C ((ρ.add ⟨[], [], [], [bs2.length, c2], [a2]⟩).add ⟨[], [], [], [bs.length + bs2.length, c'], [a']⟩) pre (HX.nil.and (frow a' c' (bs ++ bs2))) L) :
    (Tree.call f args m r m1 (Tree.gen (.call ac) ty ps m1 (some r2) m2 t)).holds C ρ pre hx L := by
  refine node_newi (V := id) (bs := bs2) AS (fun a2 c2 => ⟨[], [], [], [bs2.length, c2], [a2]⟩) hargs hcall hr hhp hfit hc (fun _ _ => oneNil) ?_
  intro a2 c2 _ hn2
  refine node_appends (sz := 1) (bytes := 1) (e := 5) (z := .int .u8 0) (rest := HX.nil) (xs := bcells bs) hac (hP ▸ Try.underlying38) (hP ▸ info_byte) rfl (by decide) a bs.length cap (fun _ => a2) bs2.length c2 (bcells bs2) (by rw [bcells_len, Nat.mul_one]) (fun ids w hp hf => hrow w hf.x.1) (fun ids w hp hf => frow_cells hf.x.2) (bcells_one bs2) (fun w h => ⟨trivial, fun _ q => q.elim⟩) (fun k h1 h2 => .inl (hrf k h1 h2)) (fun k _ _ q => q.elim) hM (by unfold maxLen; omega) (by omega) (hso a2 c2) (fun ids _ => hxo a2 c2 ids) (hr2 a2 c2) hhp2 hfit2 (hc2 a2 c2) ?_
  intro a' c' _ _ hor
  rw [frow_app]
  exact h a2 c2 a' c' (fun k h1 h2 => (hor k h1 h2).elim .inl (fun q => .inr q.1))
end
set_option maxHeartbeats 4000000 in
theorem qcmd_any (c : CmD) (hc : CmFit c) (w : World) : Calls Try.prog 25 #[.agg c.cells.toArray] w (NewO w id (cmdB c)) := by
  refine calls_at (tab_ok _) Try.func25 rfl tQCmd (ρ := ⟨c.is, [], [], [], []⟩) (ids := []) (hx := HX.nil) rfl (Facts.initP rfl oneNil) ?_
  obtain ⟨b0, e0⟩ : ∃ b, b = numB (foldN c.sess) := ⟨_, rfl⟩
  have g0 : b0.length ≤ 9 := by rw [e0]; exact numI_len (hc _ (by simp [CmD.is]))
  obtain ⟨b1, e1⟩ : ∃ b, b = numB (foldN c.seq) := ⟨_, rfl⟩
  have g1 : b1.length ≤ 9 := by rw [e1]; exact numI_len (hc _ (by simp [CmD.is]))
  obtain ⟨b2, e2⟩ : ∃ b, b = numB (foldN c.ack) := ⟨_, rfl⟩
  have g2 : b2.length ≤ 9 := by rw [e2]; exact numI_len (hc _ (by simp [CmD.is]))
  obtain ⟨b3, e3⟩ : ∃ b, b = numB (foldN c.op.kind) := ⟨_, rfl⟩
  have g3 : b3.length ≤ 9 := by rw [e3]; exact numI_len (hc _ (by simp [CmD.is]))
  obtain ⟨b4, e4⟩ : ∃ b, b = numB (foldN c.op.reg) := ⟨_, rfl⟩
  have g4 : b4.length ≤ 9 := by rw [e4]; exact numI_len (hc _ (by simp [CmD.is]))
  obtain ⟨b5, e5⟩ : ∃ b, b = numB (foldN c.op.tg) := ⟨_, rfl⟩
  have g5 : b5.length ≤ 9 := by rw [e5]; exact numI_len (hc _ (by simp [CmD.is]))
  obtain ⟨b6, e6⟩ : ∃ b, b = numB (foldN c.op.re) := ⟨_, rfl⟩
  have g6 : b6.length ≤ 9 := by rw [e6]; exact numI_len (hc _ (by simp [CmD.is]))
  obtain ⟨b7, e7⟩ : ∃ b, b = numB (foldN c.op.im) := ⟨_, rfl⟩
  have g7 : b7.length ≤ 9 := by rw [e7]; exact numI_len (hc _ (by simp [CmD.is]))
  refine node_newi (V := id) (bs := b0) (fun _ => #[.int .i64 c.sess]) (fun a' c' => ⟨[], [], [], [b0.length, c'], [a']⟩) (by intros; kernel_rfl) (fun ids w2 _ _ => by rw [e0]; exact qi_any (hc _ (by simp [CmD.is])) w2) (by intros; kernel_rfl) (by intros; kernel_rfl) (by intros; kernel_rfl) (by intros; kernel_rfl) (fun _ _ => oneNil) ?_
  intro y0 z0 _ _
  refine node_clones (sz := 1) (xs := bcells b0) rfl Try.underlying38 info_byte rfl (by decide) 1 rfl (fun _ => y0) b0.length z0 (by rw [bcells_len, Nat.mul_one]) (fun ids w2 hp hf => frow_cells hf.x.2) (bcells_one b0) (by unfold maxLen; omega) (by omega) (by intros; kernel_rfl) (by intros; kernel_rfl) (by intros; kernel_rfl) (by intros; kernel_rfl) (by intros; kernel_rfl) (by intros; kernel_rfl) ?_
  intro x0 w0 hx0
  have k0 : ∀ k, w0 ≠ 0 → abk x0 = some k → w.heap.size ≤ k := fun k h1 h2 => (hx0 k h1 h2).1
  refine node_cat (a := x0) (cap := w0) (bs := b0) (bs2 := b1) (fun _ => #[.int .i64 c.seq]) (by intros; kernel_rfl) (fun w h => h.2) (fun k h1 h2 => .inr ⟨h1, h2⟩) (fun ids w2 _ _ => by rw [e1]; exact qi_any (hc _ (by simp [CmD.is])) w2) rfl rfl (by intros; kernel_rfl) (by intros; kernel_rfl) (by intros; kernel_rfl) (by intros; kernel_rfl) (by intros; kernel_rfl) (by intros; kernel_rfl) (fun k h1 h2 => .inl (k0 k h1 h2)) (by omega) (by intros; kernel_rfl) (by intros; kernel_rfl) (by intros; kernel_rfl) (by intros; kernel_rfl) ?_
  intro u1 v1 x1 w1 hh1
  have k1 : ∀ k, w1 ≠ 0 → abk x1 = some k → w.heap.size ≤ k := fun k h1 h2 => (hh1 k h1 h2).elim (fun q => k0 k q.1 q.2) id
  refine node_cat (a := x1) (cap := w1) (bs := (b0 ++ b1)) (bs2 := b2) (fun _ => #[.int .i64 c.ack]) (by intros; kernel_rfl) (fun w h => h.2) (fun k h1 h2 => .inr ⟨h1, h2⟩) (fun ids w2 _ _ => by rw [e2]; exact qi_any (hc _ (by simp [CmD.is])) w2) rfl rfl (by intros; kernel_rfl) (by intros; kernel_rfl) (by intros; kernel_rfl) (by intros; kernel_rfl) (by intros; simp only [List.length_append]; rfl) (by intros; kernel_rfl) (fun k h1 h2 => .inl (k1 k h1 h2)) (by simp only [List.length_append]; omega) (by intros; simp only [List.length_append]; rfl) (by intros; kernel_rfl) (by intros; kernel_rfl) (by intros; kernel_rfl) ?_
  intro u2 v2 x2 w2 hh2
  have k2 : ∀ k, w2 ≠ 0 → abk x2 = some k → w.heap.size ≤ k := fun k h1 h2 => (hh2 k h1 h2).elim (fun q => k1 k q.1 q.2) id
  refine node_cat (a := x2) (cap := w2) (bs := ((b0 ++ b1) ++ b2)) (bs2 := b3) (fun _ => #[.int .i64 c.op.kind]) (by intros; kernel_rfl) (fun w h => h.2) (fun k h1 h2 => .inr ⟨h1, h2⟩) (fun ids w2 _ _ => by rw [e3]; exact qi_any (hc _ (by simp [CmD.is])) w2) rfl rfl (by intros; kernel_rfl) (by intros; kernel_rfl) (by intros; kernel_rfl) (by intros; kernel_rfl) (by intros; simp only [List.length_append]; rfl) (by intros; kernel_rfl) (fun k h1 h2 => .inl (k2 k h1 h2)) (by simp only [List.length_append]; omega) (by intros; simp only [List.length_append]; rfl) (by intros; kernel_rfl) (by intros; kernel_rfl) (by intros; kernel_rfl) ?_
  intro u3 v3 x3 w3 hh3
  have k3 : ∀ k, w3 ≠ 0 → abk x3 = some k → w.heap.size ≤ k := fun k h1 h2 => (hh3 k h1 h2).elim (fun q => k2 k q.1 q.2) id
  refine node_cat (a := x3) (cap := w3) (bs := (((b0 ++ b1) ++ b2) ++ b3)) (bs2 := b4) (fun _ => #[.int .i64 c.op.reg]) (by intros; kernel_rfl) (fun w h => h.2) (fun k h1 h2 => .inr ⟨h1, h2⟩) (fun ids w2 _ _ => by rw [e4]; exact qi_any (hc _ (by simp [CmD.is])) w2) rfl rfl (by intros; kernel_rfl) (by intros; kernel_rfl) (by intros; kernel_rfl) (by intros; kernel_rfl) (by intros; simp only [List.length_append]; rfl) (by intros; kernel_rfl) (fun k h1 h2 => .inl (k3 k h1 h2)) (by simp only [List.length_append]; omega) (by intros; simp only [List.length_append]; rfl) (by intros; kernel_rfl) (by intros; kernel_rfl) (by intros; kernel_rfl) ?_
  intro u4 v4 x4 w4 hh4
  have k4 : ∀ k, w4 ≠ 0 → abk x4 = some k → w.heap.size ≤ k := fun k h1 h2 => (hh4 k h1 h2).elim (fun q => k3 k q.1 q.2) id
  refine node_cat (a := x4) (cap := w4) (bs := ((((b0 ++ b1) ++ b2) ++ b3) ++ b4)) (bs2 := b5) (fun _ => #[.int .i64 c.op.tg]) (by intros; kernel_rfl) (fun w h => h.2) (fun k h1 h2 => .inr ⟨h1, h2⟩) (fun ids w2 _ _ => by rw [e5]; exact qi_any (hc _ (by simp [CmD.is])) w2) rfl rfl (by intros; kernel_rfl) (by intros; kernel_rfl) (by intros; kernel_rfl) (by intros; kernel_rfl) (by intros; simp only [List.length_append]; rfl) (by intros; kernel_rfl) (fun k h1 h2 => .inl (k4 k h1 h2)) (by simp only [List.length_append]; omega) (by intros; simp only [List.length_append]; rfl) (by intros; kernel_rfl) (by intros; kernel_rfl) (by intros; kernel_rfl) ?_
  intro u5 v5 x5 w5 hh5
  have k5 : ∀ k, w5 ≠ 0 → abk x5 = some k → w.heap.size ≤ k := fun k h1 h2 => (hh5 k h1 h2).elim (fun q => k4 k q.1 q.2) id
  refine node_cat (a := x5) (cap := w5) (bs := (((((b0 ++ b1) ++ b2) ++ b3) ++ b4) ++ b5)) (bs2 := b6) (fun _ => #[.int .i64 c.op.re]) (by intros; kernel_rfl) (fun w h => h.2) (fun k h1 h2 => .inr ⟨h1, h2⟩) (fun ids w2 _ _ => by rw [e6]; exact qi_any (hc _ (by simp [CmD.is])) w2) rfl rfl (by intros; kernel_rfl) (by intros; kernel_rfl) (by intros; kernel_rfl) (by intros; kernel_rfl) (by intros; simp only [List.length_append]; rfl) (by intros; kernel_rfl) (fun k h1 h2 => .inl (k5 k h1 h2)) (by simp only [List.length_append]; omega) (by intros; simp only [List.length_append]; rfl) (by intros; kernel_rfl) (by intros; kernel_rfl) (by intros; kernel_rfl) ?_
  intro u6 v6 x6 w6 hh6
  have k6 : ∀ k, w6 ≠ 0 → abk x6 = some k → w.heap.size ≤ k := fun k h1 h2 => (hh6 k h1 h2).elim (fun q => k5 k q.1 q.2) id
  refine node_cat (a := x6) (cap := w6) (bs := ((((((b0 ++ b1) ++ b2) ++ b3) ++ b4) ++ b5) ++ b6)) (bs2 := b7) (fun _ => #[.int .i64 c.op.im]) (by intros; kernel_rfl) (fun w h => h.2) (fun k h1 h2 => .inr ⟨h1, h2⟩) (fun ids w2 _ _ => by rw [e7]; exact qi_any (hc _ (by simp [CmD.is])) w2) rfl rfl (by intros; kernel_rfl) (by intros; kernel_rfl) (by intros; kernel_rfl) (by intros; kernel_rfl) (by intros; simp only [List.length_append]; rfl) (by intros; kernel_rfl) (fun k h1 h2 => .inl (k6 k h1 h2)) (by simp only [List.length_append]; omega) (by intros; simp only [List.length_append]; rfl) (by intros; kernel_rfl) (by intros; kernel_rfl) (by intros; kernel_rfl) ?_
  intro u7 v7 x7 w7 hh7
  have k7 : ∀ k, w7 ≠ 0 → abk x7 = some k → w.heap.size ≤ k := fun k h1 h2 => (hh7 k h1 h2).elim (fun q => k6 k q.1 q.2) id
  intro ids w2 hp hf
  have e : cmdB c = (((((((b0 ++ b1) ++ b2) ++ b3) ++ b4) ++ b5) ++ b6) ++ b7) := by rw [e0, e1, e2, e3, e4, e5, e6, e7]; simp [cmdB, CmD.is]
  rw [e]
  refine ⟨x7, w7, ?_, hf.x.2, k7, hf.chg.below⟩
  simp only [List.length_append]; rfl
end Go.Proofs.Yticacnankpaohaa
