/- New, Submit, Campaign, accept. -/
import Derived.Test.YtlgpjjgkdpmidaaPrB
namespace Go.Proofs.Ytlgpjjgkdpmidaa
open Go.ChangeShapes Go.WideShapes Go.ChangeAt Go.RowKit Go.Syn Go.Eng Go.MapKept
set_option linter.unusedVariables false
set_option linter.unusedSimpArgs false
set_option maxRecDepth 100000
theorem and_nil (h : HX) : h.and HX.nil = h := HX.ext (by funext k; exact propext ⟨fun q => q.elim id False.elim, .inl⟩) (by funext w; exact propext ⟨fun q => q.1, fun q => ⟨q, trivial⟩⟩)
section
variable {w : World} {nb : Nat}
theorem downG_any (me window ph r n fr nx : Int) (am : Option Addr) (ml cm : Nat) (as_ : Option Addr) (sl cs : Nat) (af : Option Addr) (fl cf : Nat) (aq : Option Addr) (ql cq : Nat) (st : Bool) (vb vo : Value) (h1 : vb.oneCell' = true) (h2 : vo.oneCell' = true)
    (hB : Blk w nb [.int .i64 me, .slice am ml cm, .int .i64 window, .int .i64 ph, .int .i64 r, .int .i64 n, .int .i64 fr, .slice as_ sl cs, vb, .int .i64 nx, vo, .slice af fl cf, .slice aq ql cq, .bool st] 77) :
    Calls Try.prog 28 #[.pointer (some ⟨nb, 0, none⟩)] w (fun e w' => e = .returned (.tuple #[]) ∧ ∃ b1 b2, w.heap.size ≤ b1 ∧ w.heap.size ≤ b2 ∧ b1 ≠ b2 ∧ b1 < w'.heap.size ∧ b2 < w'.heap.size ∧ VMap w' b1 [] ∧ VMap w' b2 [] ∧ Blk w' nb [.int .i64 me, .slice am ml cm, .int .i64 window, .int .i64 0, .int .i64 r, .int .i64 n, .int .i64 0, .slice none 0 0, .map (some b1), .int .i64 0, .map (some b2), .slice none 0 0, .slice none 0 0, .bool false] 77 ∧ Chg (fun k => k = nb) w w') := by
  refine calls_at (tab_ok _) Try.func28 rfl tPDown (ρ := ⟨[me, window, ph, r, n, fr, nx], [st], [vb, vo], [ml, cm, sl, cs, fl, cf, ql, cq], [am, as_, af, aq]⟩) (ids := [nb]) (hx := HX.nil) rfl (Facts.initx (M := fun k => k = nb) rfl (fun v hv => by simp only [List.mem_cons, List.not_mem_nil, or_false] at hv; rcases hv with rfl | rfl <;> assumption) hB rfl rfl trivial (fun k hk => hk.elim)) ?_
  refine node_vmake (by intros; kernel_rfl) (by kernel_rfl) (by kernel_rfl) (by intros; kernel_rfl) ?_
  intro b1 g1 g2
  refine node_vmake (by intros; kernel_rfl) (by kernel_rfl) (by kernel_rfl) (by intros; kernel_rfl) ?_
  intro b2 g3 g4 ids w2 hp hf
  have h := hf.blk 0 77 _ rfl
  rw [idAt0 hp] at h
  exact ⟨rfl, b1, b2, g1, g3, fun e => g4 (.inr e.symm), (hf.sep b1 (.inl (.inr rfl))).1, (hf.sep b2 (.inr rfl)).1, hf.x.1.2, hf.x.2, h, hf.chg⟩
def PrNew (w : World) (P' : Pr Vl) (e : Ending) (w' : World) : Prop := ∃ nb F', e = .returned (.pointer (some ⟨nb, 0, none⟩)) ∧ (HX.obj F' (PrO nb P')).X w' ∧ (∀ k, F' k → w.heap.size ≤ k ∧ k < w'.heap.size) ∧ Below w.heap.size w w'
theorem pnew_any (me window : Int) (a : Option Addr) (cap : Nat) (mem : List Int) (w : World) (H : Ints w a mem) (hok : setOkB mem = true ∧ hasB mem me = true) :
    Calls Try.prog 8 #[.int .i64 me, .slice a mem.length cap, .int .i64 window] w (PrNew w (Pr.new me window mem)) := by
  refine calls_at (tab_ok _) Try.func8 rfl tPNew (ρ := ⟨[me, window], [], [], [mem.length, cap], [a]⟩) (ids := []) (hx := HX.ints a mem) rfl (Facts.initq rfl oneNil H (fun k hk => by rw [hk.2]; exact (H.at_ (List.length_pos_iff.2 hk.1)).2.1)) ?_
  have hck : checkV mem = 0 := by unfold checkV; rw [if_pos hok.1]
  refine node_PI ⟨[0], [], [], [], []⟩ (fun _ => #[.slice a mem.length cap]) (.int .i64 0) (by intros; kernel_rfl) (by intros; kernel_rfl) (by kernel_rfl) (by kernel_rfl) (by kernel_rfl) oneNil (fun ids w2 hp hf => ?_) ?_
  · have := check_any a cap mem w2 hf.x
    rw [hck] at this; exact pure_same this
  refine br_F false (by kernel_rfl) rfl ?_
  refine node_PI ⟨[], [true], [], [], []⟩ (fun _ => #[.slice a mem.length cap, .int .i64 me]) (.bool true) (by intros; kernel_rfl) (by intros; kernel_rfl) (by kernel_rfl) (by kernel_rfl) (by kernel_rfl) oneNil (fun ids w2 hp hf => ?_) ?_
  · have := containsI_any a cap mem me w2 hf.x
    rw [hok.2] at this; exact pure_same this
  refine br_F false (by kernel_rfl) rfl ?_
  have hS := setOkB_iff.1 hok.1
  refine node_appnil (st := 73) (st2 := 26) (e := 3) (e2 := 3) rfl Try.underlying73 Try.underlying26 info_int1 a cap mem (fun w h => h) hS.1 (by have := hS.2.1; omega) (by intros; kernel_rfl) (by intros; kernel_rfl) (by intros; kernel_rfl) (by kernel_rfl) (by kernel_rfl) (by intros; kernel_rfl) ?_
  intro i cap' hi1 hi2
  refine holds_eq (and_nil _).symm ?_
  obtain ⟨W', eW⟩ : ∃ W', W' = max 1 (min window 16) := ⟨_, rfl⟩
  refine node_touch (fun ids => #[.pointer (some ⟨idAt ids 0, 0, none⟩)]) (fun vs h' => ∃ b1 b2, b1 ≠ b2 ∧ vs = ⟨[me, W', 0, 0, 0, 0, 0], [false], [.map (some b1), .map (some b2)], [mem.length, cap', 0, 0, 0, 0, 0, 0], [some ⟨i, 0, none⟩, none, none, none]⟩ ∧ h' = (HX.vmap b1 []).and (HX.vmap b2 [])) rfl rfl (by intros; kernel_rfl) (fun ids w2 hp hf => ?_) (fun k hk => hk.elim) (by kernel_rfl) (fun vs h' hQ => ?_) ?_
  · have hb := hf.blk 0 _ _ rfl
    refine (downG_any me W' 0 0 0 0 0 (some ⟨i, 0, none⟩) mem.length cap' none 0 0 none 0 0 none 0 0 false (.map none) (.map none) rfl rfl (by rw [eW]; exact hb)).mono ?_
    rintro e w' ⟨rfl, b1, b2, g1, g2, g3, g4, g5, g6, g7, g8, g9⟩
    refine ⟨_, _, ⟨b1, b2, g3, rfl, rfl⟩, rfl, g8, ⟨g6, g7⟩, fun k hk => ?_, ⟨g9.os, g9.tape, g9.output, g9.size, fun k hk hne => g9.block k hk fun e => hne (.inl e)⟩⟩
    rcases hk with hk | hk
    · rw [show k = b1 from hk]; exact ⟨.inr g1, g4⟩
    · rw [show k = b2 from hk]; exact ⟨.inr g2, g5⟩
  · obtain ⟨b1, b2, _, rfl, _⟩ := hQ
    exact ⟨by kernel_rfl, (fun v hv => by simp only [List.mem_cons, List.not_mem_nil, or_false] at hv; rcases hv with rfl | rfl <;> rfl)⟩
  rintro vs h' ⟨b1, b2, hb12, rfl, rfl⟩ hdis ids w2 hp hf
  have hb := hf.blk 0 _ _ rfl
  have h0 : idAt ids 0 ∈ ids := idAt_mem (by rw [hf.len]; exact Nat.zero_lt_one)
  have hid : w.heap.size ≤ idAt ids 0 := (hf.own _ h0).elim id False.elim
  have hne : mem ≠ [] := List.length_pos_iff.1 hS.1
  have Fi : (HX.ints (some ⟨i, 0, none⟩) mem).F i := ⟨hne, rfl⟩
  have s1 := hf.sep i (.inl (.inr Fi))
  have s2 := hf.sep b1 (.inr (.inl rfl))
  have s3 := hf.sep b2 (.inr (.inr rfl))
  have n1 : b1 ≠ i := fun e => (hdis b1 (.inl rfl)).1 (.inr (e ▸ Fi))
  have n2 : b2 ≠ i := fun e => (hdis b2 (.inr rfl)).1 (.inr (e ▸ Fi))
  obtain ⟨a', ea⟩ : ∃ a' : PA, a' = ⟨some ⟨i, 0, none⟩, cap', none, 0, b1, b2, none, 0, none, 0, [HX.ints (some ⟨i, 0, none⟩) mem, pz.hx]⟩ := ⟨_, rfl⟩
  have hGF : ∀ k, (HX.all [HX.ints (some ⟨i, 0, none⟩) mem, pz.hx]).F k → k = i := fun k ⟨x, hx, hk⟩ => by
    rcases List.mem_cons.1 hx with rfl | hx
    · exact hk.2
    · rw [List.mem_singleton.1 hx] at hk
      exact (hk.elim (fun q => absurd rfl q.1) (fun q => absurd rfl q.1) : False).elim
  have hF : ∀ k, (prX (Pr.new me window mem) a').F k → k = i ∨ k = b1 ∨ k = b2 := fun k hk => by
    rw [ea] at hk
    rcases hk with ((((hk | hk) | hk) | hk) | hk) | hk
    · exact .inl (hGF k hk)
    · exact .inr (.inl hk)
    · exact .inr (.inr hk)
    · exact (row0_F hk).elim
    · exact (row0_F hk).elim
    · exact (tow0_F hk).elim
  refine ⟨idAt ids 0, fun k => k = idAt ids 0 ∨ k = i ∨ k = b1 ∨ k = b2, rfl, ⟨_, ⟨Pr.new me window mem, a', rfl, ?_, fun q => ?_, rfl⟩, ⟨?_, ?_⟩, fun k hk => hk.imp id (hF k)⟩, fun k hk => ?_, hf.chg.below⟩
  · rw [ea]
    refine ⟨.head _, .tail _ (.head _), (fun p hp => by cases hp), (fun p hp => by cases hp), (fun p hp => by cases hp), ?_⟩
    intro p q x y hx hy hpq k hk hk2
    have key : ∀ {p : Nat} {x : HX}, (pcs (Pr.new me window mem) ⟨some ⟨i, 0, none⟩, cap', none, 0, b1, b2, none, 0, none, 0, [HX.ints (some ⟨i, 0, none⟩) mem, pz.hx]⟩)[p]? = some x → ∀ k, x.F k → (p = 0 ∧ k = i) ∨ (p = 1 ∧ k = b1) ∨ (p = 2 ∧ k = b2) := fun {p x} hx k hk => by
      match p, hx with
      | 0, hx => cases hx; exact .inl ⟨rfl, hGF k hk⟩
      | 1, hx => cases hx; exact .inr (.inl ⟨rfl, hk⟩)
      | 2, hx => cases hx; exact .inr (.inr ⟨rfl, hk⟩)
      | 3, hx => cases hx; exact (row0_F hk).elim
      | 4, hx => cases hx; exact (row0_F hk).elim
      | 5, hx => cases hx; exact (tow0_F hk).elim
      | n + 6, hx => simp [pcs] at hx
    rcases key hx k hk with ⟨e1, e2⟩ | ⟨e1, e2⟩ | ⟨e1, e2⟩ <;> rcases key hy k hk2 with ⟨e3, e4⟩ | ⟨e3, e4⟩ | ⟨e3, e4⟩ <;> omega
  · rcases hF _ q with e | e | e
    · exact s1.2 (e ▸ h0)
    · exact s2.2 (e ▸ h0)
    · exact s3.2 (e ▸ h0)
  · rw [ea]
    have hb2 : Blk w2 (idAt ids 0) _ 77 := hb
    refine Eq.trans hb2 ?_
    unfold prC Pr.new
    dsimp only
    rw [← eW]; rfl
  · rw [ea]
    refine ⟨⟨⟨⟨⟨fun x hx => ?_, hf.x.2.1⟩, hf.x.2.2⟩, HX.rw_nil _ _ _ _⟩, HX.rw_nil _ _ _ _⟩, HX.tw_nil _ _ _ _⟩
    rcases List.mem_cons.1 hx with rfl | hx
    · exact hf.x.1.2
    · rw [List.mem_singleton.1 hx]
      exact ⟨(fun h => by simp [pz, vz, ccells] at h), (fun h => by simp [pz, vz] at h)⟩
  · rcases hk with rfl | rfl | rfl | rfl
    · exact ⟨hid, hf.id_lt h0⟩
    · exact ⟨hi1, s1.1⟩
    · exact ⟨(hdis _ (.inl rfl)).2.elim id False.elim, s2.1⟩
    · exact ⟨(hdis _ (.inr rfl)).2.elim id False.elim, s3.1⟩
end
end Go.Proofs.Ytlgpjjgkdpmidaa
