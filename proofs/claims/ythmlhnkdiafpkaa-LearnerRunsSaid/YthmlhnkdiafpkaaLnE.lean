/- Voted. -/
import Derived.Test.YthmlhnkdiafpkaaLnD
namespace Go.Proofs.Ythmlhnkdiafpkaa
open Go.ChangeShapes Go.WideShapes Go.ChangeAt Go.RowKit Go.Syn Go.Eng Go.MapKept
set_option linter.unusedVariables false
set_option linter.unusedSimpArgs false
set_option maxRecDepth 100000
section
variable {L : Ln} {D : LD} {nb : Nat} {w w' : World} {slot node r n : Int}
def LD.roomd (D : LD) (slot : Int) (b : Nat) : LD := { D with vs := mput D.vs slot (b, []) }
theorem LOk.roomd (h : LOk L D) {b : Nat} (hb : ¬ D.F b) (hno : mlk D.vs slot = none) : LOk { L with vo := mput L.vo slot [] } (D.roomd slot b) := by
  have hn : ∀ p ∈ mput D.vs slot ((b, []) : InM), p = (slot, (b, [])) ∨ p ∈ D.vs := fun p hp => (mput_mem hp).imp id (·.1)
  refine ⟨h.de, ?_, h.gm, h.gd, fun q hq x hx => ?_, h.ne, fun q hq => ?_, ?_, fun x hx k hk => ?_⟩
  · show mput L.vo slot [] = mmap _ (mput D.vs slot (b, []))
    rw [← mput_map, h.vo]; rfl
  · rcases hn q hq with rfl | q2
    · cases hx
    · exact h.gv q q2 x hx
  · rcases hn q hq with rfl | q2
    · exact ⟨fun e => hb (.inl e), fun e => hb (.inr (.inl e))⟩
    · exact h.nv q q2
  · show ((mput D.vs slot (b, [])).map fun p => p.2.1).Nodup
    unfold mput
    rw [hno]
    simp only [Option.isSome_none, Bool.false_eq_true, if_false]
    rw [List.map_append]
    refine List.nodup_append.2 ⟨h.nn, by simp, fun x hx y hy => ?_⟩
    simp only [List.map_cons, List.map_nil, List.mem_singleton] at hy
    subst hy
    obtain ⟨q, hq, rfl⟩ := List.mem_map.1 hx
    exact fun e => hb (.inr (.inr (.inl ⟨q, hq, e⟩)))
  · refine ⟨(h.ng x hx k hk).1, (h.ng x hx k hk).2.1, fun q hq => ?_⟩
    rcases hn q hq with rfl | q2
    · exact fun e => hb (.inr (.inr (.inr ⟨x, hx, by rw [show b = k from e]; exact hk⟩)))
    · exact (h.ng x hx k hk).2.2 q q2
theorem roomd_F {b : Nat} {k : Nat} (h : (D.roomd slot b).F k) : D.F k ∨ k = b := by
  rcases h with h | h | ⟨q, hq, e⟩ | h
  · exact .inl (.inl h)
  · exact .inl (.inr (.inl h))
  · rcases mput_mem hq with rfl | q2
    · exact .inr e.symm
    · exact .inl (.inr (.inr (.inl ⟨q, q2.1, e⟩)))
  · exact .inl (.inr (.inr (.inr h)))
theorem LD.At.roomd (h : D.At w) (hok : LOk L D) {b : Nat} (hb : VMap w b []) (hbn : b ≠ D.bv) (hV : VMap w' D.bv (mput (mmap InM.val D.vs) slot (.map (some b)))) (hs : ∀ q, D.F q ∨ q = b → q ≠ D.bv → w'.heap[q]? = w.heap[q]?) : (D.roomd slot b).At w' := by
  refine ⟨h.d.loc (hs _ (.inl (.inr (.inl rfl))) (Ne.symm hok.ne)), ?_, fun q hq => ?_, fun x hx => x.loc w w' (h.g x hx) fun k hk => hs k (.inl (.inr (.inr (.inr ⟨x, hx, hk⟩)))) (hok.ng x hx k hk).1⟩
  · show VMap w' D.bv (mmap InM.val (mput D.vs slot (b, [])))
    rw [← mput_map]; exact hV
  · rcases mput_mem hq with rfl | q2
    · exact hb.loc (hs _ (.inr rfl) hbn)
    · exact (h.i q q2.1).loc (hs _ (.inl (.inr (.inr (.inl ⟨q, q2.1, rfl⟩)))) (hok.nv q q2.1).1)
def LD.noted (D : LD) (slot node : Int) (q : InM) (x : Hd Pv) : LD := { D with vs := mput D.vs slot (q.1, mput q.2 node x), G := x.v.hx :: D.G }
theorem mput_fst {m : List (Int × InM)} {k : Int} {q : InM} {hs : List (Int × Hd Pv)} (h : mlk m k = some q) (hn : NdK m) : (mput m k (q.1, hs)).map (fun p => p.2.1) = m.map (fun p => p.2.1) := by
  have e := mput_map (fun x : InM => x.1) m k ((q.1, hs) : InM)
  have e2 : mput (mmap (fun x : InM => x.1) m) k q.1 = mmap (fun x : InM => x.1) m := mput_same (by unfold NdK; rw [keys_map]; exact hn) (by rw [mlk_map, h]; rfl)
  have : mmap (fun x : InM => x.1) (mput m k (q.1, hs)) = mmap (fun x : InM => x.1) m := e.symm.trans e2
  have := congrArg (List.map Prod.snd) this
  unfold mmap at this
  rwa [List.map_map, List.map_map] at this
theorem mput_val {m : List (Int × InM)} {k : Int} {q : InM} {hs : List (Int × Hd Pv)} (h : mlk m k = some q) (hn : NdK m) : mmap InM.val (mput m k (q.1, hs)) = mmap InM.val m := by
  rw [← mput_map]
  exact mput_same (by unfold NdK; rw [keys_map]; exact hn) (by rw [mlk_map, h]; rfl)
theorem LOk.nvs (h : LOk L D) (hinv : LnInv L) : NdK D.vs := by
  have := hinv.nvo
  unfold NdK at *
  rw [h.vo, keys_map] at this; exact this
theorem LOk.heard (h : LOk L D) (slot : Int) : L.heard slot = mmap (Hd.map Pv.v) (match mlk D.vs slot with | some q => q.2 | none => []) := by
  unfold Ln.heard
  rw [h.vo, mlk_map]
  cases mlk D.vs slot <;> rfl
theorem LOk.noted (h : LOk L D) (hinv : LnInv L) {q : InM} (hq : mlk D.vs slot = some q) {x : Hd Pv} (hf : VlFit x.v.v) (hfr : ∀ k, x.v.hx.F k → ¬ D.F k) : LOk (L.note node slot (x.map Pv.v)) (D.noted slot node q x) := by
  have hnd := h.nvs hinv
  have hm := mlk_mem hq
  refine ⟨h.de, ?_, .tail _ h.gm, fun y hy => ⟨.tail _ (h.gd y hy).1, (h.gd y hy).2⟩, fun y hy z hz => ?_, h.ne, fun y hy => ?_, ?_, fun y hy k hk => ?_⟩
  · show mput L.vo slot (mput (L.heard slot) node (x.map Pv.v)) = mmap _ (mput D.vs slot (q.1, mput q.2 node x))
    rw [← mput_map, ← h.vo, h.heard slot, hq]
    congr 1
    exact mput_map _ _ _ _
  · rcases mput_mem hy with rfl | q2
    · rcases mput_mem hz with rfl | q3
      · exact ⟨.head _, hf⟩
      · exact ⟨.tail _ (h.gv _ hm z q3.1).1, (h.gv _ hm z q3.1).2⟩
    · exact ⟨.tail _ (h.gv y q2.1 z hz).1, (h.gv y q2.1 z hz).2⟩
  · rcases mput_mem hy with rfl | q2
    · exact h.nv (slot, q) hm
    · exact h.nv y q2.1
  · show ((mput D.vs slot (q.1, mput q.2 node x)).map fun p => p.2.1).Nodup
    rw [mput_fst hq hnd]; exact h.nn
  · have hp : ∀ (P : Nat → Prop), (∀ p ∈ D.vs, P p.2.1) → ∀ p ∈ mput D.vs slot ((q.1, mput q.2 node x) : InM), P p.2.1 := fun P hP p hp => by
      rcases mput_mem hp with rfl | q2
      · exact hP (slot, q) hm
      · exact hP p q2.1
    rcases List.mem_cons.1 hy with rfl | hy
    · have := hfr k hk
      exact ⟨fun e => this (.inl e), fun e => this (.inr (.inl e)), hp (fun b => b ≠ k) fun p hp e => this (.inr (.inr (.inl ⟨p, hp, e⟩)))⟩
    · exact ⟨(h.ng y hy k hk).1, (h.ng y hy k hk).2.1, hp (fun b => b ≠ k) (h.ng y hy k hk).2.2⟩
theorem noted_F {q : InM} (hq : mlk D.vs slot = some q) {x : Hd Pv} {k : Nat} (h : (D.noted slot node q x).F k) : D.F k ∨ x.v.hx.F k := by
  rcases h with h | h | ⟨y, hy, e⟩ | ⟨y, hy, hk⟩
  · exact .inl (.inl h)
  · exact .inl (.inr (.inl h))
  · rcases mput_mem hy with rfl | q2
    · exact .inl (.inr (.inr (.inl ⟨_, mlk_mem hq, e⟩)))
    · exact .inl (.inr (.inr (.inl ⟨y, q2.1, e⟩)))
  · rcases List.mem_cons.1 hy with rfl | hy
    · exact .inr hk
    · exact .inl (.inr (.inr (.inr ⟨y, hy, hk⟩)))
theorem nd_blk {m : List (Int × InM)} (h : (m.map fun p => p.2.1).Nodup) {p q : Int × InM} (hp : p ∈ m) (hq : q ∈ m) (e : p.2.1 = q.2.1) : p = q := by
  obtain ⟨i, hi⟩ := List.mem_iff_getElem?.1 hp
  obtain ⟨j, hj⟩ := List.mem_iff_getElem?.1 hq
  have a1 : (m.map fun p => p.2.1)[i]? = some p.2.1 := by rw [List.getElem?_map, hi]; rfl
  have a2 : (m.map fun p => p.2.1)[j]? = some p.2.1 := by rw [List.getElem?_map, hj, e]; rfl
  have := nodup_idx h a1 a2
  subst this
  rw [hi] at hj; exact Option.some.inj hj
theorem LD.At.noted (h : D.At w) (hok : LOk L D) (hinv : LnInv L) {q : InM} (hq : mlk D.vs slot = some q) {x : Hd Pv} (hx : x.v.hx.X w) (hV : VMap w' q.1 (mput (mmap hdV q.2) node (hdV x))) (hs : ∀ k, D.F k ∨ x.v.hx.F k → k ≠ q.1 → w'.heap[k]? = w.heap[k]?) (hne : ∀ k, x.v.hx.F k → k ≠ q.1) : (D.noted slot node q x).At w' := by
  have hnd := hok.nvs hinv
  have hm := mlk_mem hq
  have hqn := hok.nv _ hm
  refine ⟨h.d.loc (hs _ (.inl (.inr (.inl rfl))) hqn.2.symm), ?_, fun y hy => ?_, fun y hy => ?_⟩
  · show VMap w' D.bv (mmap InM.val (mput D.vs slot (q.1, mput q.2 node x)))
    rw [mput_val hq hnd]
    exact h.v.loc (hs _ (.inl (.inl rfl)) hqn.1.symm)
  · rcases mput_mem hy with rfl | q2
    · show VMap w' q.1 (mmap hdV (mput q.2 node x))
      rw [← mput_map]; exact hV
    · refine (h.i y q2.1).loc (hs _ (.inl (.inr (.inr (.inl ⟨y, q2.1, rfl⟩)))) fun e => q2.2 ?_)
      rw [nd_blk hok.nn q2.1 hm e]
  · rcases List.mem_cons.1 hy with rfl | hy
    · exact HX.loc _ w w' hx fun k hk => hs k (.inr hk) (hne k hk)
    · exact y.loc w w' (h.g y hy) fun k hk => hs k (.inl (.inr (.inr (.inr ⟨y, hy, hk⟩)))) fun e => (hok.ng y hy k hk).2.2 _ hm e.symm
theorem hd_zero (w : World) : (zeroValue 83).run Try.prog w = .ok (hdV ⟨0, 0, ⟨vz, none, 0, none, 0⟩⟩) w := by kernel_rfl
theorem inn_zero (w : World) : (zeroValue 80).run Try.prog w = .ok (.map none) w := by kernel_rfl
/-- Is it a vote for that value in that ballot? -/
def forB (r n : Int) (v : Vl) (x : Hd Pv) : Bool := (x.r == r && x.n == n) && vlEqB x.v.v v
theorem votesFor_in (hs : List (Int × Hd Pv)) (r n : Int) (v : Vl) (y : Int) : y ∈ votesFor (mmap (Hd.map Pv.v) hs) r n v ↔ ∃ p ∈ hs, forB r n v p.2 = true ∧ p.1 = y := by
  unfold votesFor
  rw [List.mem_map]
  constructor
  · rintro ⟨p, hp, rfl⟩
    obtain ⟨h1, h2⟩ := List.mem_filter.1 hp
    obtain ⟨q, hq, rfl⟩ := List.mem_map.1 h1
    exact ⟨q, hq, h2, rfl⟩
  · rintro ⟨q, hq, h1, rfl⟩
    exact ⟨(q.1, q.2.map Pv.v), List.mem_filter.2 ⟨List.mem_map.2 ⟨q, hq, rfl⟩, h1⟩, rfl⟩
theorem enoughB_ext {ms a b : List Int} (h : ∀ x, x ∈ a ↔ x ∈ b) : enoughB ms a = enoughB ms b := by
  have : inCount ms a = inCount ms b := List.countP_congr fun x _ => by rw [hasB_iff, hasB_iff]; exact h x
  unfold enoughB; rw [this]
def VoI (W : World) (base : HX) (i b : Nat) (hs : List (Int × Hd Pv)) (r n : Int) (v : Vl) (vs : Vals) (hx : HX) (k : Nat) : Prop := ∃ (ls : List (Int × Hd Pv)) (last : Option (Int × Value)) (ns : List Int) (a : Option Addr) (cap : Nat), k = ls.length ∧ vs = ⟨[], [], [], [ns.length, cap], [a]⟩ ∧ (∀ p ∈ ls, p ∈ hs) ∧ ns.length + ls.length ≤ 9 ∧ (∀ x ∈ ns, I64 x) ∧
  (∀ y, (y ∈ ns ∨ ∃ p ∈ ls, forB r n v p.2 = true ∧ p.1 = y) ↔ ∃ p ∈ hs, forB r n v p.2 = true ∧ p.1 = y) ∧ hx = (base.and (HX.rng i b (mmap hdV hs) (mmap hdV ls) last)).and (HX.rw 1 3 a ns.length cap (ns.map (Value.int .i64))) ∧ ∀ q, cap ≠ 0 → abk a = some q → W.heap.size ≤ q ∧ ¬ (base.and (HX.rng i b (mmap hdV hs) (mmap hdV ls) last)).F q
theorem nd_key {α : Type} {ls : List (Int × α)} (h : (ls.map (·.1)).Nodup) {p q : Int × α} (hp : p ∈ ls) (hq : q ∈ ls) (e : p.1 = q.1) : p = q := by
  have a := mem_mlk (m := ls) h hp
  have b := mem_mlk (m := ls) h hq
  rw [e, b] at a
  exact Prod.ext e (Option.some.inj a).symm
set_option maxHeartbeats 1600000 in
theorem voted_any (F : Nat → Prop) (v : Vl) (a1 : Option Addr) (c1 : Nat) (a2 : Option Addr) (c2 : Nat) (H0 : (HX.obj F (LnO nb L)).X w) (hF : ∀ k, F k → k < w.heap.size) (hinv : LnInv L) (hsl : I64 slot) (H : VlAt w v a1 a2) (hv : ∀ k, (vlX v a1 a2).F k → ¬ F k) :
    Calls Try.prog 12 #[.pointer (some ⟨nb, 0, none⟩), .int .i64 node, .agg #[.int .i64 slot, .int .i64 r, .int .i64 n, .int .i64 v.k, .slice a1 v.cs.length c1, .slice a2 v.ns.length c2]] w (LnMut w F nb (L.voted node slot r n v).1 (.bool (L.voted node slot r n v).2)) := by
  obtain ⟨D, hok, hnb, hB, hX, Fnb, hsub⟩ := obj_open H0
  have n1 := hinv.next1
  have hsep : ∀ k, (D.X.and (vlX v a1 a2)).F k → k < w.heap.size ∧ k ≠ nb := fun k hk => hk.elim (fun q => ⟨hF k (hsub k q), fun e => hnb (e ▸ q)⟩) (fun q => ⟨vlX_sep H.X k q, fun e => hv k q (e ▸ Fnb)⟩)
  refine calls_at (tab_ok _) Try.func12 rfl tLVoted (ρ := ⟨[L.next, L.top, node, slot, r, n, v.k], [], [.map (some D.bv), .map (some D.bd)], [L.mem.length, D.cm, v.cs.length, c1, v.ns.length, c2], [D.am, a1, a2]⟩) (ids := [nb]) (hx := (vlX v a1 a2).and D.X) rfl (Facts.initx (M := F) rfl (fun v hv => by simp only [List.mem_cons, List.not_mem_nil, or_false] at hv; rcases hv with rfl | rfl <;> rfl) hB rfl Fnb ⟨H.X, hX⟩ (fun k hk => hsep k hk.symm)) ?_
  have no : ∀ {m : Cnt} {rr : List (Nat × List LV)} {ρ : Env} {S : Stack} {cs : List LV}, (L.openB slot v && hasB L.mem node && balB r n) = false → (∀ ids, cellsDen ρ ids cs = lnC L D) → (Tree.done (.lf (.bool (.lit false))) ⟨(77, cs) :: rr, m⟩).holds ⟨Try.prog, w, F, LnMut w F nb (L.voted node slot r n v).1 (.bool (L.voted node slot r n v).2)⟩ ρ [nb] ((vlX v a1 a2).and D.X) S := fun h hc => by
    have e : L.voted node slot r n v = (L, false) := by unfold Ln.voted; rw [if_neg (by rw [h]; decide)]
    rw [e]
    exact ln_done hok (fun w h => h.2) (fun k hk => .inr hk) (fun k hk => .inl (hsub k hk)) Fnb hc (by intros; kernel_rfl)
  refine node_PI ⟨[], [L.openB slot v], [], [], []⟩ (fun ids => #[.pointer (some ⟨idAt ids 0, 0, none⟩), .int .i64 slot, vlV v a1 c1 a2 c2]) (.bool (L.openB slot v)) (by intros; kernel_rfl) (by intros; kernel_rfl) (by kernel_rfl) (by kernel_rfl) (by kernel_rfl) oneNil (fun ids w2 hp hf => ?_) ?_
  · have hb := hf.blk 0 _ _ rfl
    rw [idAt0 hp] at hb ⊢
    exact open_any slot v a1 c1 a2 c2 hb hf.x.2 hok hinv hnb hsl (H.fit.at_ hf.x.1) fun k hk => ⟨(hf.sep k hk.symm).1, fun e => (hf.sep k hk.symm).2 (by rw [e]; obtain ⟨x, rfl⟩ := hp; simp)⟩
  refine br_B (!(L.openB slot v)) (by kernel_rfl) (fun h => no (by rw [show L.openB slot v = false by simpa using h]; rfl) (by intros; kernel_rfl)) (fun ho => ?_)
  have ho : L.openB slot v = true := by simpa using ho
  refine node_PI ⟨[], [hasB L.mem node], [], [], []⟩ (fun ids => #[.slice D.am L.mem.length D.cm, .int .i64 node]) (.bool (hasB L.mem node)) (by intros; kernel_rfl) (by intros; kernel_rfl) (by kernel_rfl) (by kernel_rfl) (by kernel_rfl) oneNil (fun ids w2 hp hf => pure_same (has_any _ _ _ _ w2 (hf.x.2.g _ hok.gm))) ?_
  refine br_B (!(hasB L.mem node)) (by kernel_rfl) (fun h => no (by rw [show hasB L.mem node = false by simpa using h, Bool.and_false]; rfl) (by intros; kernel_rfl)) (fun hm => ?_)
  have hm : hasB L.mem node = true := by simpa using hm
  refine node_PI ⟨[], [balB r n], [], [], []⟩ (fun ids => #[.agg #[.int .i64 r, .int .i64 n]]) (.bool (balB r n)) (by intros; kernel_rfl) (by intros; kernel_rfl) (by kernel_rfl) (by kernel_rfl) (by kernel_rfl) oneNil (fun ids w2 hp hf => valid_any r n w2) ?_
  refine br_B (!(balB r n)) (by kernel_rfl) (fun h => no (by rw [show balB r n = false by simpa using h, Bool.and_false]) (by intros; kernel_rfl)) (fun hb => ?_)
  have hb : balB r n = true := by simpa using hb
  clear no
  obtain ⟨⟨o1, o2, o3, o4⟩, o5⟩ := openB_iff.1 ho
  have hinv0 := hinv.up (slot := slot) o1 o3
  have hok0 : LOk (L.up slot) D := ⟨hok.de, hok.vo, hok.gm, hok.gd, hok.gv, hok.ne, hok.nv, hok.nn, hok.ng⟩
  obtain ⟨L1, eL1⟩ : ∃ L1, L1 = (L.up slot).room slot := ⟨_, rfl⟩
  have hinv1 : LnInv L1 := by rw [eL1]; exact hinv0.room o1 o3 o5
  obtain ⟨m1, m2, m3, m4⟩ : L1.mem = L.mem ∧ L1.de = L.de ∧ L1.next = L.next ∧ L1.top = max L.top slot := by rw [eL1]; exact room_mem
  refine holds_env (ρ' := ⟨[L.next, L.top, node, slot, r, n, v.k], [true, true, true], [.map (some D.bv), .map (some D.bd)], [L.mem.length, D.cm, v.cs.length, c1, v.ns.length, c2], [D.am, a1, a2]⟩) (by rw [ho, hm, hb]; rfl) ?_
  refine ⟨fun vs hx' => vs = Vals.nil ∧ ∃ D1 q, LOk L1 D1 ∧ (D1.am = D.am ∧ D1.cm = D.cm ∧ D1.bv = D.bv ∧ D1.bd = D.bd) ∧ mlk D1.vs slot = some q ∧ (∀ k, D1.F k → F k ∨ w.heap.size ≤ k) ∧ (∀ k, D1.F k → ¬ (vlX v a1 a2).F k) ∧ hx' = (vlX v a1 a2).and D1.X, ?_, ?_⟩
  · refine node_vlook1 (z := .map none) (mt := 74) (kt := 3) (et := 80) ⟨[], [], [.map ((mlk D.vs slot).map (·.1))], [], []⟩ D.bv (mmap InM.val D.vs) slot (fun w h => h.2.v) (by intros; kernel_rfl) (by intros; kernel_rfl) Try.underlying74 Try.underlying3 inn_zero (fun ids => ?_) (by kernel_rfl) (by kernel_rfl) (by kernel_rfl) (fun v hv => by simp only [List.mem_singleton] at hv; subst hv; rfl) ?_
    · rw [vlk_is, mlk_map]
      cases mlk D.vs slot <;> kernel_rfl
    refine node_mnil (mt := 80) (kt := 3) (et := 83) ((mlk D.vs slot).map (·.1)) ⟨[], [((mlk D.vs slot).map (·.1)).isNone], [], [], []⟩ Try.underlying80 (by intros; kernel_rfl) (by intros; kernel_rfl) (by intros; kernel_rfl) (by kernel_rfl) (by kernel_rfl) (by kernel_rfl) oneNil ?_
    refine br_B (((mlk D.vs slot).map (·.1)).isNone) (by kernel_rfl) (fun h => ?_) (fun h => ?_)
    · have hno : mlk D.vs slot = none := by cases e : mlk D.vs slot with | none => rfl | some x => rw [e] at h; cases h
      refine node_vmake (by intros; kernel_rfl) (by kernel_rfl) (by kernel_rfl) (by intros; kernel_rfl) ?_
      intro b hb1 hb2
      have hbD : ¬ D.F b := fun q => hb2 (.inr q)
      refine node_vputX (mt := 74) (kt := 3) (et := 80) ((vlX v a1 a2).and (D.roomd slot b).X) D.bv (mmap InM.val D.vs) slot (.map (some b)) (fun w h => h.1.2.v) (.inl (.inr (.inl rfl))) (.inr (hsub _ (.inl rfl))) (by intros; kernel_rfl) (by intros; kernel_rfl) (by intros; kernel_rfl) Try.underlying74 Try.underlying3 (fun w w' h hV hs => ⟨(vlX v a1 a2).loc _ _ h.1.1 fun k hk => hs k (.inl (.inl hk)) fun e => hv k hk (e ▸ hsub _ (.inl rfl)), h.1.2.roomd hok0 h.2 (fun e => hbD (e ▸ .inl rfl)) hV fun k hk => hs k (hk.elim (fun q => .inl (.inr q)) .inr)⟩) (fun k hk => hk.elim (fun q => .inl (.inl q)) fun q => (roomd_F q).elim (fun r => .inl (.inr r)) .inr) (by kernel_rfl) (by kernel_rfl) (by kernel_rfl) ?_
      refine again_V Vals.nil rfl (by intros; kernel_rfl) _ (fun w2 ids hf => ⟨hf.x, hf.sep⟩) ⟨rfl, D.roomd slot b, (b, []), ?_, ⟨rfl, rfl, rfl, rfl⟩, ?_, fun k hk => ?_, fun k hk q => ?_, rfl⟩
      · have : L1 = { (L.up slot) with vo := mput (L.up slot).vo slot [] } := by
          rw [eL1]; unfold Ln.room; rw [if_pos]; rw [hok0.vo, mlk_map, hno]; rfl
        rw [this]; exact hok0.roomd hbD hno
      · show mlk (mput D.vs slot (b, [])) slot = _
        rw [mlk_put, if_pos rfl]
      · exact (roomd_F hk).elim (fun q => .inl (hsub k q)) (fun e => .inr (e ▸ hb1))
      · exact (roomd_F hk).elim (fun r => hv k q (hsub k r)) (fun e => hb2 (e ▸ .inl q))
    · obtain ⟨q, hq⟩ : ∃ q, mlk D.vs slot = some q := by cases e : mlk D.vs slot with | none => rw [e] at h; cases h | some x => exact ⟨x, rfl⟩
      refine again_V Vals.nil rfl (by intros; kernel_rfl) _ (fun w2 ids hf => ⟨hf.x, hf.sep⟩) ⟨rfl, D, q, ?_, ⟨rfl, rfl, rfl, rfl⟩, hq, fun k hk => .inl (hsub k hk), fun k hk r => hv k r (hsub k hk), rfl⟩
      have : L1 = L.up slot := by
        rw [eL1]; unfold Ln.room; rw [if_neg]; rw [hok0.vo, mlk_map, hq]; exact fun q => by cases q
      rw [this]; exact hok0
  rintro vs hx' hcnt ⟨rfl, D1, q, hok1, ⟨d1, d2, d3, d4⟩, hq, hF1, hdv, rfl⟩
  rw [Env.add_nil]
  have hL1 : L1.heard slot = mmap (Hd.map Pv.v) q.2 := by rw [hok1.heard slot, hq]
  have hqF : D1.F q.1 := .inr (.inr (.inl ⟨_, mlk_mem hq, rfl⟩))
  have hcell : ∀ ids, cellsDen ⟨[L.next, L.top, node, slot, r, n, v.k], [true, true, true], [.map (some D.bv), .map (some D.bd)], [L.mem.length, D.cm, v.cs.length, c1, v.ns.length, c2], [D.am, a1, a2]⟩ ids [.sl 0 (.var 0) (.var 1), .int .i64 (.var 0), .int .i64 (.mx (.var 1) (.var 3)), .val 0, .val 1] = lnC L1 D1 := fun ids => by
    unfold lnC
    rw [m1, m3, m4, d1, d2, d3, d4]; kernel_rfl
  obtain ⟨old, hold⟩ : ∃ old : Hd Pv, old = (mlk q.2 node).getD ⟨0, 0, ⟨vz, none, 0, none, 0⟩⟩ := ⟨_, rfl⟩
  have hbal : hdBal (mlk (L1.heard slot) node) = (old.r, old.n) := by
    rw [hL1, mlk_map, hold]
    cases mlk q.2 node <;> rfl
  refine node_vlook1 (z := .map none) (mt := 74) (kt := 3) (et := 80) ⟨[], [], [.map (some q.1)], [], []⟩ D.bv (mmap InM.val D1.vs) slot (fun w h => d3 ▸ h.2.v) (by intros; kernel_rfl) (by intros; kernel_rfl) Try.underlying74 Try.underlying3 inn_zero (fun ids => ?_) (by kernel_rfl) (by kernel_rfl) (by kernel_rfl) (fun v hv => by simp only [List.mem_singleton] at hv; subst hv; rfl) ?_
  · rw [vlk_is, mlk_map, hq]; kernel_rfl
  refine node_vlook1 (z := hdV ⟨0, 0, ⟨vz, none, 0, none, 0⟩⟩) (mt := 80) (kt := 3) (et := 83) ⟨[old.r, old.n, old.v.v.k], [], [], [old.v.v.cs.length, old.v.c1, old.v.v.ns.length, old.v.c2], [old.v.a1, old.v.a2]⟩ q.1 (mmap hdV q.2) node (fun w h => h.2.i _ (mlk_mem hq)) (by intros; kernel_rfl) (by intros; kernel_rfl) Try.underlying80 Try.underlying3 hd_zero (fun ids => ?_) (by kernel_rfl) (by kernel_rfl) (by kernel_rfl) oneNil ?_
  · have : (vlk (mmap hdV q.2) node).getD (hdV ⟨0, 0, ⟨vz, none, 0, none, 0⟩⟩) = hdV old := by
      rw [vlk_is, mlk_map, hold]
      cases mlk q.2 node <;> rfl
    exact Eq.trans (by kernel_rfl) this.symm
  refine node_PI ⟨[compareV r n old.r old.n], [], [], [], []⟩ (fun ids => #[.agg #[.int .i64 r, .int .i64 n], .agg #[.int .i64 old.r, .int .i64 old.n]]) (.int .i64 (compareV r n old.r old.n)) (by intros; kernel_rfl) (by intros; kernel_rfl) (by kernel_rfl) (by kernel_rfl) (by kernel_rfl) oneNil (fun ids w2 hp hf => compare_any r n old.r old.n w2) ?_
  have hV0 : L.voted node slot r n v = if compareV r n old.r old.n ≤ 0 then (L1, false) else if enoughB L.mem (votesFor ((L1.note node slot ⟨r, n, v⟩).heard slot) r n v) then ((L1.note node slot ⟨r, n, v⟩).settle slot v, true) else (L1.note node slot ⟨r, n, v⟩, false) := by
    unfold Ln.voted
    rw [if_pos (by rw [ho, hm, hb]; rfl)]
    dsimp only
    rw [← eL1, hbal]
  refine br_D (p := compareV r n old.r old.n ≤ 0) (by kernel_rfl) (fun h => ?_) (fun h => ?_)
  · rw [if_pos h] at hV0
    rw [hV0]
    exact ln_done hok1 (fun w h => h.2) (fun k hk => .inr hk) hF1 Fnb (fun ids => Eq.trans (by kernel_rfl) (hcell ids)) (by intros; kernel_rfl)
  rw [if_neg h] at hV0
  obtain ⟨L2, eL2⟩ : ∃ L2, L2 = L1.note node slot ⟨r, n, v⟩ := ⟨_, rfl⟩
  rw [← eL2] at hV0
  have hinv2 : LnInv L2 := by rw [eL2]; exact hinv1.note (by rw [m3]; exact o1) o3 (by rw [m2]; exact o5) hb (by rw [m1]; exact hasB_iff.1 hm)
  refine node_vl (V := id) (v := v) (fun _ => #[vlV v a1 c1 a2 c2]) (fun b1 d1 b2 d2 => ⟨[v.k], [], [], [v.cs.length, d1, v.ns.length, d2], [b1, b2]⟩) (by intros; kernel_rfl) (fun ids w2 hp hf => vclone_any v a1 c1 a2 c2 w2 (H.fit.at_ hf.x.1)) (by intros; kernel_rfl) (by kernel_rfl) (by kernel_rfl) (by intros; kernel_rfl) (fun _ _ _ _ => oneNil) ?_
  intro b1 e1 b2 e2 hfr
  obtain ⟨x, ex⟩ : ∃ x : Hd Pv, x = ⟨r, n, ⟨v, b1, e1, b2, e2⟩⟩ := ⟨_, rfl⟩
  have exx : vlX v b1 b2 = x.v.hx := by rw [ex]; rfl
  rw [exx] at hfr ⊢
  obtain ⟨D2, eD2⟩ : ∃ D2, D2 = D1.noted slot node q x := ⟨_, rfl⟩
  have hok2 : LOk L2 D2 := by
    have := hok1.noted (node := node) hinv1 hq (x := x) (by rw [ex]; exact H.fit) (fun k hk r => (hfr k hk).2 (.inr r))
    rw [eL2, eD2]; rw [ex] at this ⊢; exact this
  have hF2 : ∀ k, D2.F k → (vlX v a1 a2).F k → False := fun k hk r => by
    rw [eD2] at hk
    exact (noted_F hq hk).elim (fun s => hdv k s r) (fun s => (hfr k s).2 (.inl r))
  have hF3 : ∀ k, D2.F k → F k ∨ w.heap.size ≤ k := fun k hk => by
    rw [eD2] at hk
    exact (noted_F hq hk).elim (hF1 k) (fun s => .inr (hfr k s).1)
  have hq2 : mlk D2.vs slot = some (q.1, mput q.2 node x) := by
    rw [eD2]; show mlk (mput D1.vs slot _) slot = _; rw [mlk_put, if_pos rfl]
  obtain ⟨dd1, dd2, dd3, dd4⟩ : D2.am = D.am ∧ D2.cm = D.cm ∧ D2.bv = D.bv ∧ D2.bd = D.bd := by rw [eD2]; exact ⟨d1, d2, d3, d4⟩
  obtain ⟨hs, ehs⟩ : ∃ hs, hs = mput q.2 node x := ⟨_, rfl⟩
  rw [← ehs] at hq2
  have hq2F : D2.F q.1 := .inr (.inr (.inl ⟨_, mlk_mem hq2, rfl⟩))
  have hL2 : L2.heard slot = mmap (Hd.map Pv.v) hs := by rw [hok2.heard slot, hq2]
  have hlen : hs.length ≤ 9 := by have := hinv2.hlen (slot := slot); rw [hL2] at this; unfold mmap at this; rwa [List.length_map] at this
  have hkey : ∀ p ∈ hs, 1 ≤ p.1 ∧ p.1 ≤ 9 := fun p hp => hinv2.memr _ ((hinv2.heard (slot := slot)).2 (p.1, p.2.map Pv.v) (by rw [hL2]; exact List.mem_map.2 ⟨p, hp, rfl⟩)).2
  refine node_vputX (mt := 80) (kt := 3) (et := 83) ((vlX v a1 a2).and D2.X) q.1 (mmap hdV q.2) node (hdV x) (fun w h => h.1.2.i _ (mlk_mem hq)) (.inl (.inr hqF)) ((hF1 _ hqF).symm) (by intros; kernel_rfl) (by intros; kernel_rfl) (fun ids => by rw [ex]; kernel_rfl) Try.underlying80 Try.underlying3 (fun w w' h hV hss => ⟨(vlX v a1 a2).loc _ _ h.1.1 fun k hk => hss k (.inl (.inl hk)) fun e => hdv k (e ▸ hqF) hk, ?_⟩) (fun k hk => hk.elim (fun q => .inl (.inl q)) fun r => ?_) (by kernel_rfl) (by kernel_rfl) (by kernel_rfl) ?_
  · rw [eD2]
    exact h.1.2.noted hok1 hinv1 hq h.2 hV (fun k hk => hss k (hk.elim (fun q => .inl (.inr q)) .inr)) (fun k hk e => (hfr k hk).2 (.inr (e ▸ hqF)))
  · rw [eD2] at r
    exact (noted_F hq r).elim (fun s => .inl (.inr s)) .inr
  refine node_vrangeX (mt := 80) (kt := 3) (et := 83) q.1 (mmap hdV hs) (fun w h => h.2.i _ (mlk_mem hq2)) (.inr hq2F) (by intros; kernel_rfl) Try.underlying80 (by intros; kernel_rfl) (by kernel_rfl) (by kernel_rfl) (by intros; kernel_rfl) ?_
  intro i hi1 hi2
  refine ⟨VoI w ((vlX v a1 a2).and D2.X) i q.1 hs r n v, fun ids w2 hp hf => ⟨(((vlX v a1 a2).and D2.X).and (HX.rng i q.1 (mmap hdV hs) (mmap hdV hs) none)).and (HX.rw 1 3 none 0 0 []), hs.length, ⟨⟨hf.x, HX.rw_nil _ _ _ _⟩, fun k hk => hk.elim (hf.sep k) fun q => absurd rfl q.1⟩, hs, none, [], none, 0, rfl, rfl, fun p hp => hp, by show 0 + hs.length ≤ 9; omega, (fun y hy => by cases hy), fun y => ⟨fun h => h.elim (fun h => by cases h) id, .inr⟩, rfl, fun k h => absurd rfl h⟩, ?_⟩
  rintro vs hx' k hcnt ⟨ls, last, ns, a, cap, rfl, rfl, hls, hll, hns, hor, rfl, hfra⟩
  refine holds_env (ρ' := ⟨[L.next, L.top, node, slot, r, n, v.k, old.r, old.n, old.v.v.k, compareV r n old.r old.n, v.k], [true, true, true], [.map (some D.bv), .map (some D.bd), .map (some q.1), .pointer (some ⟨i, 0, none⟩)], [L.mem.length, D.cm, v.cs.length, c1, v.ns.length, c2, old.v.v.cs.length, old.v.c1, old.v.v.ns.length, old.v.c2, v.cs.length, e1, v.ns.length, e2, ns.length, cap], [D.am, a1, a2, old.v.a1, old.v.a2, b1, b2, a]⟩) rfl ?_
  refine holds_eq (HX.and_right_comm _ _ _) ?_
  have hrowi : ¬ ((vlX v a1 a2).and D2.X |>.and (HX.rw 1 3 a ns.length cap (ns.map (Value.int .i64)))).F i := fun hh => hh.elim hi2 (fun r => (hfra i r.1 r.2).2 (.inr (.inl rfl)))
  refine node_vnext i q.1 (mmap hdV hs) (mmap hdV ls) last hi1 hrowi (by intros; kernel_rfl) (by kernel_rfl) (by kernel_rfl) (fun h0 => ?_) (fun kk vv h1 h2 => ?_)
  · refine ⟨⟨[0, 0, 0, 0], [false], [], [0, 0, 0, 0], [none, none]⟩, (by intros; kernel_rfl), by kernel_rfl, oneNil, br_F false (by kernel_rfl) rfl ?_⟩
    have h0 : ls = [] := by unfold mmap at h0; exact List.map_eq_nil_iff.1 h0
    have hvo : ∀ y, y ∈ ns ↔ y ∈ votesFor (L2.heard slot) r n v := fun y => by
      rw [hL2, votesFor_in, ← hor y, h0]
      exact ⟨.inl, fun h => h.elim id fun ⟨p, hp, _⟩ => by cases hp⟩
    have hen := enoughB_ext (ms := L.mem) hvo
    have e2m : L2.mem = L.mem := by rw [eL2]; exact m1
    have hmem : ∀ w, D2.At w → Ints w D.am L.mem := fun w h => by
      have := h.g _ hok2.gm
      rw [dd1, e2m] at this; exact this
    refine node_PI ⟨[], [enoughB L.mem ns], [], [], []⟩ (fun ids => #[.slice D.am L.mem.length D.cm, .slice a ns.length cap]) (.bool (enoughB L.mem ns)) (by intros; kernel_rfl) (by intros; kernel_rfl) (by kernel_rfl) (by kernel_rfl) (by kernel_rfl) oneNil (fun ids w2 hp hf => pure_same (enough_any _ _ _ _ _ _ w2 (hmem w2 hf.x.1.1.2) (Ints.of_cells (by omega) hns (rw_cells hf.x.1.2)))) ?_
    have hcell2 : ∀ ids, cellsDen ⟨[L.next, L.top, node, slot, r, n, v.k], [true, true, true], [.map (some D.bv), .map (some D.bd)], [L.mem.length, D.cm, v.cs.length, c1, v.ns.length, c2], [D.am, a1, a2]⟩ ids [.sl 0 (.var 0) (.var 1), .int .i64 (.var 0), .int .i64 (.mx (.var 1) (.var 3)), .val 0, .val 1] = lnC L2 D2 := fun ids => by
      have : lnC L2 D2 = lnC L1 D1 := by unfold lnC; rw [dd1, dd2, dd3, dd4, d1, d2, d3, d4, eL2]; rfl
      rw [this]; exact hcell ids
    refine br_B (!(enoughB L.mem ns)) (by kernel_rfl) (fun h => ?_) (fun h => ?_)
    · have h : enoughB L.mem (votesFor (L2.heard slot) r n v) = false := by rw [← hen]; simpa using h
      rw [if_neg (by rw [h]; decide)] at hV0
      rw [hV0]
      exact ln_done hok2 (fun w h => h.1.1.2) (fun k hk => .inl (.inl (.inr hk))) hF3 Fnb (fun ids => Eq.trans (by kernel_rfl) (hcell2 ids)) (by intros; kernel_rfl)
    · have h : enoughB L.mem (votesFor (L2.heard slot) r n v) = true := by rw [← hen]; simpa using h
      rw [if_pos h] at hV0
      rw [hV0]
      refine holds_sub _ (hx' := (vlX v a1 a2).and D2.X) (fun w h => h.1.1) (fun k hk => .inl (.inl hk)) ?_
      refine node_mut (fun ids => #[.pointer (some ⟨idAt ids 0, 0, none⟩), .int .i64 slot, vlV v a1 c1 a2 c2]) (fun vs h' => vs = Vals.nil ∧ ∃ D', LOk (L2.settle slot v) D' ∧ (D'.am = D2.am ∧ D'.cm = D2.cm ∧ D'.bv = D2.bv ∧ D'.bd = D2.bd) ∧ (∀ k, D'.F k → F k ∨ w.heap.size ≤ k) ∧ h' = D'.X) (by intros; kernel_rfl) (fun ids w2 hp hf => ?_) (fun k hk => ⟨fun q => hF2 k hk q, (hF3 k hk).symm⟩) (by kernel_rfl) (by kernel_rfl) (fun vs h' q => by rw [q.1]; exact ⟨by kernel_rfl, oneNil⟩) ?_
      · have hbk := hf.blk 0 _ _ rfl
        have hmem : nb ∈ ids := by obtain ⟨x, rfl⟩ := hp; simp
        rw [idAt0 hp] at hbk ⊢
        have hbk2 : Blk w2 nb (lnC L2 D2) 77 := hbk.trans (congrArg (fun c => some (Obj.cells (List.toArray c) 77 (0, 0))) (Eq.trans (by kernel_rfl) (hcell2 ids)))
        refine (settle_any (L := L2) (slot := slot) v a1 c1 a2 c2 hbk2 hf.x.2 hok2 (fun q => (hf.sep nb (.inr q)).2 hmem) (H.fit.at_ hf.x.1) (fun k hk => (hf.sep k (.inr hk)).1) (fun k hk => ⟨fun q => hF2 k q hk, fun e => (hf.sep k (.inl hk)).2 (by rw [e]; exact hmem)⟩)).mono ?_
        rintro e w' ⟨rfl, D', q1, q2, q3, q4, q5⟩
        exact ⟨Vals.nil, D'.X, ⟨rfl, D', q1, q2, fun k hk => (q4 k hk).1.elim (hF3 k) fun r => .inr (Nat.le_trans hf.chg.size r), rfl⟩, by kernel_rfl, q3, q4, q5⟩
      · rintro vs h' ⟨rfl, D', q1, ⟨q2, q3, q4, q5⟩, q6, rfl⟩ _
        rw [Env.add_nil]
        refine ln_done q1 (fun w h => h.2) (fun k hk => .inr hk) q6 Fnb (fun ids => ?_) (by intros; kernel_rfl)
        have : lnC (L2.settle slot v) D' = lnC L2 D2 := by unfold lnC; rw [q2, q3, q4, q5]; rfl
        rw [this]; exact Eq.trans (by kernel_rfl) (hcell2 ids)
  · obtain ⟨⟨k2, p⟩, hp1, hp2⟩ := List.mem_map.1 h1
    obtain ⟨rfl, rfl⟩ := Prod.mk.inj hp2
    have hpn := hls _ hp1
    have hpD := hok2.gv _ (mlk_mem hq2) _ hpn
    have hk9 := hkey _ hpn
    have hlt : (mdel ls k2).length < ls.length := mdel_lt hp1
    refine ⟨⟨[k2, p.r, p.n, p.v.v.k], [true], [], [p.v.v.cs.length, p.v.c1, p.v.v.ns.length, p.v.c2], [p.v.a1, p.v.a2]⟩, (by intros; kernel_rfl), by kernel_rfl, oneNil, br_T true (by kernel_rfl) rfl ?_⟩
    refine node_ventry ⟨[k2, p.r, p.n, p.v.v.k], [], [], [p.v.v.cs.length, p.v.c1, p.v.v.ns.length, p.v.c2], [p.v.a1, p.v.a2]⟩ i q.1 _ _ k2 (hdV p) (by intros; kernel_rfl) (by intros; kernel_rfl) (by kernel_rfl) (by kernel_rfl) (by kernel_rfl) oneNil ?_
    rw [vdel_is, mdel_map]
    refine holds_eq (HX.and_right_comm _ _ _) ?_
    have hkeep : forB r n v p = false → (∀ y, (y ∈ ns ∨ ∃ p ∈ mdel ls k2, forB r n v p.2 = true ∧ p.1 = y) ↔ ∃ p ∈ hs, forB r n v p.2 = true ∧ p.1 = y) := fun hno y => by
      rw [← hor y]
      refine or_congr Iff.rfl ⟨fun ⟨z, z1, z2⟩ => ⟨z, (mdel_in.1 z1).1, z2⟩, fun ⟨z, z1, z2⟩ => ⟨z, mdel_in.2 ⟨z1, fun e => ?_⟩, z2⟩⟩
      have : (k2, p) = z := nd_key (ls := hs) (by have := (hinv2.heard (slot := slot)).1; unfold NdK at this; rw [hL2, keys_map] at this; exact this) hpn (hls z z1) e.symm
      rw [← this] at z2
      rw [hno] at z2; exact absurd z2.1 (by decide)
    have hagain : forB r n v p = false → ∀ {m : Mem} {ρ : Env}, (∀ ids, Vec.den ρ ids ⟨[], [], [], [.var 14, .var 15], [.var 7]⟩ = ⟨[], [], [], [ns.length, cap], [a]⟩) → (Tree.again 12 ⟨[], [], [], [.var 14, .var 15], [.var 7]⟩ m).holds ⟨Try.prog, w, F, LnMut w F nb (L.voted node slot r n v).1 (.bool (L.voted node slot r n v).2)⟩ ρ [nb] ((((vlX v a1 a2).and D2.X).and (HX.rng i q.1 (mmap hdV hs) (mmap hdV (mdel ls k2)) (some (k2, hdV p)))).and (HX.rw 1 3 a ns.length cap (ns.map (Value.int .i64)))) [(12, fun vs' hx'' => ∃ n', n' < ls.length ∧ VoI w ((vlX v a1 a2).and D2.X) i q.1 hs r n v vs' hx'' n')] := fun hno {m ρ} hvv =>
      again_V ⟨[], [], [], [ns.length, cap], [a]⟩ rfl hvv _ (fun w2 ids hf => ⟨hf.x, hf.sep⟩) ⟨(mdel ls k2).length, hlt, mdel ls k2, some (k2, hdV p), ns, a, cap, rfl, rfl, fun z hz => hls z (mdel_in.1 hz).1, by omega, hns, hkeep hno, rfl, hfra⟩
    refine br_B (p.r == r && p.n == n) (by kernel_rfl) (fun h3 => ?_) (fun h3 => ?_)
    · refine node_PI ⟨[], [vlSame p.v.v v], [], [], []⟩ (fun ids => #[p.v.val, vlV v a1 c1 a2 c2]) (.bool (vlSame p.v.v v)) (by intros; kernel_rfl) (by intros; kernel_rfl) (by kernel_rfl) (by kernel_rfl) (by kernel_rfl) oneNil (fun ids w2 hp hf => vsame_any _ _ _ _ _ _ _ _ _ _ w2 (hpD.2.at_ (hf.x.1.1.2.g _ hpD.1)) (H.fit.at_ hf.x.1.1.1)) ?_
      refine br_B (vlSame p.v.v v) (by kernel_rfl) (fun h4 => ?_) (fun h4 => ?_)
      · have hyes : forB r n v p = true := by rw [vlSame_B] at h4; unfold forB; rw [h3, h4]; rfl
        refine node_pushs (e := 3) (sz := 1) rfl Try.underlying26 info_int1 rfl (by decide) a ns.length cap (ns.map (Value.int .i64)) [.int .i64 k2] 3 (by intros; kernel_rfl) (by intros; kernel_rfl) rfl (by intros; kernel_rfl) rfl (fun v hv => by simp only [List.mem_singleton] at hv; subst hv; rfl) (fun k q1 q2 => (hfra k q1 q2).2) (fun k q1 q2 => .inl (hfra k q1 q2).1) (by unfold maxLen; omega) (by omega) (by intros; kernel_rfl) (by kernel_rfl) (by kernel_rfl) (by intros; kernel_rfl) ?_
        intro a' cap' hc' hr' hor'
        refine again_V ⟨[], [], [], [(ns ++ [k2]).length, cap'], [a']⟩ rfl (fun ids => by rw [List.length_append]; kernel_rfl) _ (fun w2 ids hf => ⟨hf.x, hf.sep⟩) ⟨(mdel ls k2).length, hlt, mdel ls k2, some (k2, hdV p), ns ++ [k2], a', cap', rfl, rfl, fun z hz => hls z (mdel_in.1 hz).1, ?_, fun y hy => ?_, fun y => ?_, ?_, fun k q1 q2 => ⟨?_, hr' k q2⟩⟩
        · rw [List.length_append]; simp only [List.length_cons, List.length_nil]; omega
        · rcases List.mem_append.1 hy with hy | hy
          · exact hns y hy
          · rw [List.mem_singleton.1 hy]; have h9 : 1 ≤ k2 ∧ k2 ≤ 9 := hk9; unfold I64; omega
        · rw [← hor y]
          constructor
          · rintro (h | ⟨z, z1, z2⟩)
            · rcases List.mem_append.1 h with h | h
              · exact .inl h
              · exact .inr ⟨(k2, p), hp1, hyes, (List.mem_singleton.1 h).symm⟩
            · exact .inr ⟨z, (mdel_in.1 z1).1, z2⟩
          · rintro (h | ⟨z, z1, z2⟩)
            · exact .inl (List.mem_append_left _ h)
            · by_cases e : z.1 = k2
              · exact .inl (List.mem_append_right _ (List.mem_singleton.2 (by rw [← z2.2, e])))
              · exact .inr ⟨z, mdel_in.2 ⟨z1, e⟩, z2⟩
        · rw [List.length_append, List.map_append]; rfl
        · rcases hor' with ⟨r1, r2⟩ | ⟨g, r1, r2, _⟩
          · exact (hfra k r1 (by rw [← r2]; exact q2)).1
          · rw [r1] at q2; cases q2; exact r2
      · exact hagain (by rw [vlSame_B] at h4; unfold forB; rw [h4, Bool.and_false]) (by intros; kernel_rfl)
    · exact hagain (by unfold forB; rw [h3]; rfl) (by intros; kernel_rfl)
end
end Go.Proofs.Ythmlhnkdiafpkaa
