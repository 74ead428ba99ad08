/- settle, Told, Known, Next, Pass, Size, New. -/
import Derived.Test.YthmlhnkdiafpkaaLnA
namespace Go.Proofs.Ythmlhnkdiafpkaa
open Go.ChangeShapes Go.WideShapes Go.ChangeAt Go.RowKit Go.Syn Go.Eng Go.MapKept
set_option linter.unusedVariables false
set_option linter.unusedSimpArgs false
set_option maxRecDepth 100000
section
variable {L : Ln} {D : LD} {nb : Nat} {w w' : World} {slot : Int}
def LD.putd (D : LD) (slot : Int) (p : Pv) : LD := { D with ds := mput D.ds slot p, G := p.hx :: D.G }
def LD.delv (D : LD) (slot : Int) : LD := { D with vs := mdel D.vs slot }
theorem LOk.putd (h : LOk L D) {p : Pv} (hf : VlFit p.v) (hfr : ∀ k, p.hx.F k → ¬ D.F k) : LOk { L with de := mput L.de slot p.v } (D.putd slot p) := by
  refine ⟨?_, h.vo, .tail _ h.gm, fun q hq => ?_, fun q hq x hx => ⟨.tail _ (h.gv q hq x hx).1, (h.gv q hq x hx).2⟩, h.ne, h.nv, h.nn, fun x hx k hk => ?_⟩
  · show mput L.de slot p.v = mmap Pv.v (mput D.ds slot p)
    rw [← mput_map, h.de]
  · rcases mput_mem hq with rfl | q
    · exact ⟨.head _, hf⟩
    · exact ⟨.tail _ (h.gd _ q.1).1, (h.gd _ q.1).2⟩
  · rcases List.mem_cons.1 hx with rfl | hx
    · have := hfr k hk
      exact ⟨fun e => this (.inl e), fun e => this (.inr (.inl e)), fun q hq e => this (.inr (.inr (.inl ⟨q, hq, e⟩)))⟩
    · exact h.ng x hx k hk
theorem LOk.delv (h : LOk L D) : LOk { L with vo := mdel L.vo slot } (D.delv slot) := by
  refine ⟨h.de, ?_, h.gm, h.gd, fun q hq => h.gv q (mdel_in.1 hq).1, h.ne, fun q hq => h.nv q (mdel_in.1 hq).1, (List.Sublist.map _ List.filter_sublist).nodup h.nn, fun x hx k hk => ?_⟩
  · show mdel L.vo slot = mmap _ (mdel D.vs slot)
    rw [← mdel_map, h.vo]
  · obtain ⟨g1, g2, g3⟩ := h.ng x hx k hk
    exact ⟨g1, g2, fun q hq => g3 q (mdel_in.1 hq).1⟩
theorem LD.At.putd (h : D.At w) (hok : LOk L D) {p : Pv} (hp : p.hx.X w) (hV : VMap w' D.bd (mput (mmap Pv.val D.ds) slot p.val)) (hs : ∀ q, D.F q ∨ p.hx.F q → q ≠ D.bd → w'.heap[q]? = w.heap[q]?) (hne : ∀ k, p.hx.F k → k ≠ D.bd) : (D.putd slot p).At w' := by
  refine ⟨?_, h.v.loc (hs _ (.inl (.inl rfl)) hok.ne), fun q hq => (h.i q hq).loc (hs _ (.inl (.inr (.inr (.inl ⟨q, hq, rfl⟩)))) (hok.nv q hq).2), fun x hx => ?_⟩
  · show VMap w' D.bd (mmap Pv.val (mput D.ds slot p))
    rw [← mput_map]; exact hV
  · rcases List.mem_cons.1 hx with rfl | hx
    · exact HX.loc _ w w' hp fun k hk => hs k (.inr hk) (hne k hk)
    · exact x.loc w w' (h.g x hx) fun k hk => hs k (.inl (.inr (.inr (.inr ⟨x, hx, hk⟩)))) (hok.ng x hx k hk).2.1
theorem LD.At.delv (h : D.At w) (hok : LOk L D) (hV : VMap w' D.bv (mdel (mmap InM.val D.vs) slot)) (hs : ∀ q, D.F q → q ≠ D.bv → w'.heap[q]? = w.heap[q]?) : (D.delv slot).At w' := by
  refine ⟨h.d.loc (hs _ (.inr (.inl rfl)) (Ne.symm hok.ne)), ?_, fun q hq => (h.i q (mdel_in.1 hq).1).loc (hs _ (.inr (.inr (.inl ⟨q, (mdel_in.1 hq).1, rfl⟩))) (hok.nv q (mdel_in.1 hq).1).1), fun x hx => x.loc w w' (h.g x hx) fun k hk => hs k (.inr (.inr (.inr ⟨x, hx, hk⟩))) (hok.ng x hx k hk).1⟩
  show VMap w' D.bv (mmap InM.val (mdel D.vs slot))
  rw [← mdel_map]; exact hV
theorem putd_F {p : Pv} {k : Nat} (h : (D.putd slot p).F k) : D.F k ∨ p.hx.F k := by
  rcases h with h | h | h | ⟨x, hx, hk⟩
  · exact .inl (.inl h)
  · exact .inl (.inr (.inl h))
  · exact .inl (.inr (.inr (.inl h)))
  · rcases List.mem_cons.1 hx with rfl | hx
    · exact .inr hk
    · exact .inl (.inr (.inr (.inr ⟨x, hx, hk⟩)))
theorem delv_F {k : Nat} (h : (D.delv slot).F k) : D.F k := by
  rcases h with h | h | ⟨q, hq, e⟩ | h
  · exact .inl h
  · exact .inr (.inl h)
  · exact .inr (.inr (.inl ⟨q, (mdel_in.1 hq).1, e⟩))
  · exact .inr (.inr (.inr h))
/-- What a call does that changes the maps alone. -/
def LSet (w : World) (D : LD) (L' : Ln) (e : Ending) (w' : World) : Prop := e = .returned (.tuple #[]) ∧ ∃ D', LOk L' D' ∧ (D'.am = D.am ∧ D'.cm = D.cm ∧ D'.bv = D.bv ∧ D'.bd = D.bd) ∧ D'.At w' ∧ (∀ k, D'.F k → (D.F k ∨ w.heap.size ≤ k) ∧ k < w'.heap.size) ∧ Chg D.F w w'
theorem settle_any (v : Vl) (a1 : Option Addr) (c1 : Nat) (a2 : Option Addr) (c2 : Nat) (hB : Blk w nb (lnC L D) 77) (hX : D.At w) (hok : LOk L D) (hnb : ¬ D.F nb) (H : VlAt w v a1 a2) (hD : ∀ k, D.F k → k < w.heap.size) (hv : ∀ k, (vlX v a1 a2).F k → ¬ D.F k ∧ k ≠ nb) :
    Calls Try.prog 32 #[.pointer (some ⟨nb, 0, none⟩), .int .i64 slot, vlV v a1 c1 a2 c2] w (LSet w D (L.settle slot v)) := by
  refine calls_at (tab_ok _) Try.func32 rfl tLSettle (ρ := ⟨[L.next, L.top, slot, v.k], [], [.map (some D.bv), .map (some D.bd)], [L.mem.length, D.cm, v.cs.length, c1, v.ns.length, c2], [D.am, a1, a2]⟩) (ids := [nb]) (hx := D.X.and (vlX v a1 a2)) rfl (Facts.initx (M := fun x => x = nb ∨ D.F x) rfl (fun v hv => by simp only [List.mem_cons, List.not_mem_nil, or_false] at hv; rcases hv with rfl | rfl <;> rfl) hB rfl (.inl rfl) ⟨hX, H.X⟩ (fun k hk => hk.elim (fun q => ⟨hD k q, fun e => hnb (e ▸ q)⟩) (fun q => ⟨vlX_sep H.X k q, (hv k q).2⟩))) ?_
  refine node_vl (V := id) (v := v) (fun _ => #[vlV v a1 c1 a2 c2]) (fun b1 d1 b2 d2 => ⟨[v.k], [], [], [v.cs.length, d1, v.ns.length, d2], [b1, b2]⟩) (by intros; kernel_rfl) (fun ids w2 hp hf => vclone_any v a1 c1 a2 c2 w2 (H.fit.at_ hf.x.2)) (by intros; kernel_rfl) (by kernel_rfl) (by kernel_rfl) (by intros; kernel_rfl) (fun _ _ _ _ => oneNil) ?_
  intro b1 d1 b2 d2 hfr
  obtain ⟨p, ep⟩ : ∃ p : Pv, p = ⟨v, b1, d1, b2, d2⟩ := ⟨_, rfl⟩
  have epx : vlX v b1 b2 = p.hx := by rw [ep]; rfl
  rw [epx] at hfr ⊢
  have hpn : ∀ k, p.hx.F k → ¬ D.F k := fun k hk q => (hfr k hk).2 (.inl q)
  have hok1 : LOk { L with de := mput L.de slot p.v } (D.putd slot p) := hok.putd (by rw [ep]; exact H.fit) hpn
  refine node_vputX (mt := 75) (kt := 3) (et := 32) ((D.putd slot p).X.and (vlX v a1 a2)) D.bd (mmap Pv.val D.ds) slot p.val (fun w h => h.1.1.d) (.inl (.inl (.inr (.inl rfl)))) (.inr (.inr (.inr (.inl rfl)))) (by intros; kernel_rfl) (by intros; kernel_rfl) (fun ids => by rw [ep]; kernel_rfl) Try.underlying75 Try.underlying3 (fun w w' h hV hs => ⟨?_, ?_⟩) (fun k hk => ?_) (by kernel_rfl) (by kernel_rfl) (by kernel_rfl) ?_
  · exact h.1.1.putd hok h.2 hV (fun q hq hne => hs q (hq.elim (fun q => .inl (.inl q)) .inr) hne) (fun k hk e => hpn k hk (e ▸ .inr (.inl rfl)))
  · exact (vlX v a1 a2).loc _ _ h.1.2 fun k hk => hs k (.inl (.inr hk)) fun e => (hv k hk).1 (e ▸ .inr (.inl rfl))
  · rcases hk with hk | hk
    · exact (putd_F hk).elim (fun q => .inl (.inl q)) .inr
    · exact .inl (.inr hk)
  refine node_vdelX (mt := 74) (kt := 3) (et := 80) rfl (((D.putd slot p).delv slot).X.and (vlX v a1 a2)) D.bv (mmap InM.val D.vs) slot rfl (fun w h => h.1.v) (.inl (.inl rfl)) (.inr (.inr (.inl rfl))) (by intros; kernel_rfl) (by intros; kernel_rfl) Try.underlying74 Try.underlying3 (fun w w' h hV hs => ⟨h.1.delv hok1 hV (fun q hq hne => hs q (.inl hq) hne), ?_⟩) (fun k hk => hk.elim (fun q => .inl (delv_F q)) .inr) (by intros; kernel_rfl) (by kernel_rfl) (by kernel_rfl) (by kernel_rfl) ?_
  · exact (vlX v a1 a2).loc _ _ h.2 fun k hk => hs k (.inr hk) fun e => (hv k hk).1 (e ▸ .inl rfl)
  intro ids w2 hp hf
  refine ⟨rfl, (D.putd slot p).delv slot, ?_, ⟨rfl, rfl, rfl, rfl⟩, hf.x.1, fun k hk => ⟨?_, (hf.sep k (.inl hk)).1⟩, ?_⟩
  · have := hok1.delv (slot := slot)
    rw [ep] at this ⊢; exact this
  · exact (putd_F (delv_F hk)).imp id fun q => (hfr k q).1
  · have hsame := hf.same1 hp hB rfl
    exact ⟨hf.chg.os, hf.chg.tape, hf.chg.output, hf.chg.size, fun k hk hne => by
      by_cases e : k = nb
      · rw [e]; exact hsame
      · exact hf.chg.block k hk fun q => q.elim e hne⟩
/-- The object behind a method. -/
theorem ln_done {W : World} {F : Nat → Prop} {L' : Ln} {D' : LD} {cs : List LV} {r : List (Nat × List LV)} {n : Cnt} {V : Value} {v : SV} {ρ : Env} {hx : HX} {S : Stack} (hok : LOk L' D') (hX : ∀ w, hx.X w → D'.At w) (hF : ∀ k, D'.F k → hx.F k) (hF2 : ∀ k, D'.F k → F k ∨ W.heap.size ≤ k) (hnb : F nb) (hc : ∀ ids, cellsDen ρ ids cs = lnC L' D') (hv : ∀ ids, v.den ρ ids = V) :
    (Tree.done v ⟨(77, cs) :: r, n⟩).holds ⟨Try.prog, W, F, LnMut W F nb L' V⟩ ρ [nb] hx S := fun ids w2 hp hf => by
  have h := hf.blk 0 77 cs rfl
  rw [idAt0 hp, hc] at h
  have hmem : nb ∈ ids := by obtain ⟨x, rfl⟩ := hp; simp
  refine ⟨by rw [hv], fun k => k = nb ∨ D'.F k, ⟨_, ⟨D', hok, fun q => (hf.sep nb (hF nb q)).2 hmem, rfl⟩, ⟨h, hX w2 hf.x⟩, fun k hk => hk⟩, fun k hk => ?_, hf.chg⟩
  rcases hk with rfl | hk
  · exact ⟨.inl hnb, hf.id_lt hmem⟩
  · exact ⟨hF2 k hk, (hf.sep k (hF k hk)).1⟩
theorem obj_open {F : Nat → Prop} {w : World} (h : (HX.obj F (LnO nb L)).X w) : ∃ D, LOk L D ∧ ¬ D.F nb ∧ Blk w nb (lnC L D) 77 ∧ D.At w ∧ F nb ∧ ∀ k, D.F k → F k := by
  obtain ⟨h, ⟨D, hok, hnb, rfl⟩, ⟨hB, hX⟩, hsub⟩ := h
  exact ⟨D, hok, hnb, hB, hX, hsub nb (.inl rfl), fun k hk => hsub k (.inr hk)⟩
theorem told_any (F : Nat → Prop) (v : Vl) (a1 : Option Addr) (c1 : Nat) (a2 : Option Addr) (c2 : Nat) (H0 : (HX.obj F (LnO nb L)).X w) (hF : ∀ k, F k → k < w.heap.size) (hinv : LnInv L) (hsl : I64 slot) (H : VlAt w v a1 a2) (hv : ∀ k, (vlX v a1 a2).F k → ¬ F k) :
    Calls Try.prog 10 #[.pointer (some ⟨nb, 0, none⟩), .int .i64 slot, vlV v a1 c1 a2 c2] w (LnMut w F nb (L.told slot v).1 (.bool (L.told slot v).2)) := by
  obtain ⟨D, hok, hnb, hB, hX, Fnb, hsub⟩ := obj_open H0
  have hsep : ∀ k, (D.X.and (vlX v a1 a2)).F k → k < w.heap.size ∧ k ≠ nb := fun k hk => hk.elim (fun q => ⟨hF k (hsub k q), fun e => hnb (e ▸ q)⟩) (fun q => ⟨vlX_sep H.X k q, fun e => hv k q (e ▸ Fnb)⟩)
  refine calls_at (tab_ok _) Try.func10 rfl tLTold (ρ := ⟨[L.next, L.top, slot, v.k], [], [.map (some D.bv), .map (some D.bd)], [L.mem.length, D.cm, v.cs.length, c1, v.ns.length, c2], [D.am, a1, a2]⟩) (ids := [nb]) (hx := (vlX v a1 a2).and D.X) rfl (Facts.initx (M := F) rfl (fun v hv => by simp only [List.mem_cons, List.not_mem_nil, or_false] at hv; rcases hv with rfl | rfl <;> rfl) hB rfl Fnb ⟨H.X, hX⟩ (fun k hk => hsep k hk.symm)) ?_
  refine node_PI ⟨[], [L.openB slot v], [], [], []⟩ (fun ids => #[.pointer (some ⟨idAt ids 0, 0, none⟩), .int .i64 slot, vlV v a1 c1 a2 c2]) (.bool (L.openB slot v)) (by intros; kernel_rfl) (by intros; kernel_rfl) (by kernel_rfl) (by kernel_rfl) (by kernel_rfl) oneNil (fun ids w2 hp hf => ?_) ?_
  · have hb := hf.blk 0 _ _ rfl
    rw [idAt0 hp] at hb ⊢
    exact open_any slot v a1 c1 a2 c2 hb hf.x.2 hok hinv hnb hsl (H.fit.at_ hf.x.1) fun k hk => ⟨(hf.sep k hk.symm).1, fun e => (hf.sep k hk.symm).2 (by rw [e]; obtain ⟨x, rfl⟩ := hp; simp)⟩
  refine br_B (!(L.openB slot v)) (by kernel_rfl) (fun h => ?_) (fun h => ?_)
  · have h : L.openB slot v = false := by simpa using h
    have e : L.told slot v = (L, false) := by unfold Ln.told; rw [if_neg (by rw [h]; decide)]
    rw [e]
    exact ln_done hok (fun w h => h.2) (fun k hk => .inr hk) (fun k hk => .inl (hsub k hk)) Fnb (by intros; kernel_rfl) (by intros; kernel_rfl)
  · have h : L.openB slot v = true := by simpa using h
    have e : L.told slot v = ((L.up slot).settle slot v, true) := by unfold Ln.told; rw [if_pos h]
    rw [e]
    have hok2 : LOk (L.up slot) D := ⟨hok.de, hok.vo, hok.gm, hok.gd, hok.gv, hok.ne, hok.nv, hok.nn, hok.ng⟩
    refine node_mut (fun ids => #[.pointer (some ⟨idAt ids 0, 0, none⟩), .int .i64 slot, vlV v a1 c1 a2 c2]) (fun vs h' => vs = Vals.nil ∧ ∃ D', LOk ((L.up slot).settle slot v) D' ∧ (D'.am = D.am ∧ D'.cm = D.cm ∧ D'.bv = D.bv ∧ D'.bd = D.bd) ∧ (∀ k, D'.F k → F k ∨ w.heap.size ≤ k) ∧ h' = D'.X) (by intros; kernel_rfl) (fun ids w2 hp hf => ?_) (fun k hk => ⟨fun q => hv k q (hsub k hk), .inr (hsub k hk)⟩) (by kernel_rfl) (by kernel_rfl) (fun vs h' q => by rw [q.1]; exact ⟨by kernel_rfl, oneNil⟩) ?_
    · have hb := hf.blk 0 _ _ rfl
      rw [idAt0 hp] at hb ⊢
      refine (settle_any (L := L.up slot) (slot := slot) v a1 c1 a2 c2 hb hf.x.2 hok2 hnb (H.fit.at_ hf.x.1) (fun k hk => (hf.sep k (.inr hk)).1) (fun k hk => ⟨fun q => hv k hk (hsub k q), fun e => (hf.sep k (.inl hk)).2 (by rw [e]; obtain ⟨x, rfl⟩ := hp; simp)⟩)).mono ?_
      rintro e w' ⟨rfl, D', q1, q2, q3, q4, q5⟩
      exact ⟨Vals.nil, D'.X, ⟨rfl, D', q1, q2, fun k hk => (q4 k hk).1.imp (hsub k) (Nat.le_trans hf.chg.size), rfl⟩, by kernel_rfl, q3, q4, q5⟩
    · rintro vs h' ⟨rfl, D', q1, ⟨q2, q3, q4, q5⟩, q6, rfl⟩ _
      rw [Env.add_nil]
      refine ln_done q1 (fun w h => h.2) (fun k hk => .inr hk) q6 Fnb (fun ids => ?_) (by intros; kernel_rfl)
      unfold lnC
      rw [q2, q3, q4, q5]; kernel_rfl
end
end Go.Proofs.Ythmlhnkdiafpkaa
