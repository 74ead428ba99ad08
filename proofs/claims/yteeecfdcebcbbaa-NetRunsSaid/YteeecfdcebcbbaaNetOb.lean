/- Bytes in blocks of their own, known; bytes that nobody asks about; the net's List once more. -/
import Derived.Test.YteeecfdcebcbbaaNetLose
import Derived.Test.YteeecfdcebcbbaaNetRg
namespace Go.Proofs.Yteeecfdcebcbbaa
open Go.ChangeShapes Go.WideShapes Go.ChangeAt Go.RowKit Go.Syn Go.Eng
set_option linter.unusedVariables false
set_option linter.unusedSimpArgs false
def OwnB (w : World) (a : Option Addr) (bs : List Int) : Prop := bs ≠ [] → ∃ (g : Nat) (cur : List Value), a = some ⟨g, 0, none⟩ ∧ w.heap[g]? = some (.cells cur.toArray 5 (0, 0)) ∧ cur.take bs.length = bcells bs
theorem blk_lt {w : World} {g : Nat} {o : Obj} (h : w.heap[g]? = some o) : g < w.heap.size := by
  rcases Nat.lt_or_ge g w.heap.size with q | q
  · exact q
  · rw [Array.getElem?_eq_none q] at h; cases h
theorem OwnB.cells {w : World} {a : Option Addr} {bs : List Int} (h : OwnB w a bs) : Cells w a (bcells bs) := fun h0 => by
  obtain ⟨g, cur, rfl, hg, ht⟩ := h (fun q => by rw [q] at h0; simp [bcells] at h0)
  refine ⟨rfl, blk_lt hg, fun i u hi => ?_⟩
  have := cells_blk (o := 0) hg i
  show w.cell? ⟨g, 0 + i, none⟩ = some u
  rw [this, Nat.zero_add]
  rw [← ht, List.getElem?_take] at hi
  split at hi
  · exact hi
  · cases hi
def HX.ob (a : Option Addr) (bs : List Int) : HX := ⟨fun k => bs ≠ [] ∧ k = Go.Syn.blk a, fun w => OwnB w a bs, fun w w' h e hne => by
  obtain ⟨g, cur, rfl, hg, ht⟩ := h hne
  exact ⟨g, cur, rfl, by rw [e g ⟨hne, rfl⟩]; exact hg, ht⟩⟩
theorem ob_cl {a : Option Addr} {bs : List Int} {k : Nat} : (HX.cl a (bcells bs)).F k ↔ (HX.ob a bs).F k := ⟨fun h => ⟨fun q => h.1 (by rw [q]; rfl), h.2⟩, fun h => ⟨fun q => h.1 (bcells_nil.1 q), h.2⟩⟩
def NewOb (w : World) (bs : List Int) (e : Ending) (w' : World) : Prop := ∃ a' c', e = .returned (.slice a' bs.length c') ∧ OwnB w' a' bs ∧ (bs ≠ [] → w.heap.size ≤ blk a') ∧ Below w.heap.size w w'
theorem clone_own (a : Option Addr) (cap : Nat) (bs : List Int) (w : World) (H : Cells w a (bcells bs)) (hl : bs.length ≤ 140737488355328) : Calls Try.prog 20 #[.slice a bs.length cap] w (NewOb w bs) := by
  refine calls_at (tab_ok _) Try.func20 rfl tClone (ρ := ⟨[], [], [], [bs.length, cap], [a]⟩) (ids := []) (hx := HX.cl a (bcells bs)) rfl (Facts.initq rfl oneNil H (cl_sep H)) ?_
  refine br_i (fun h => ?_) (fun h => ?_)
  · intro ids w2 hp hf
    have ha : a = none := by
      have : a.isNone = true := h
      simpa using this
    subst ha
    have hb : bs = [] := by
      rcases List.eq_nil_or_concat bs with q | ⟨r, x, q⟩
      · exact q
      · have := (H (by rw [bcells_len, q]; simp)).1
        simp [PlainA] at this
    subst hb
    exact ⟨none, 0, rfl, fun h => absurd rfl h, fun h => absurd rfl h, hf.chg.below⟩
  · refine node_clones (sz := 1) (xs := bcells bs) rfl Try.underlying22 info_byte rfl (by decide) 0 rfl (fun _ => a) bs.length cap (by rw [bcells_len, Nat.mul_one]) (fun ids w2 hp hf => hf.x) (bcells_one bs) (by unfold maxLen; omega) (by omega) (fun _ => rfl) (fun _ => rfl) (fun _ _ _ => rfl) rfl rfl (fun _ _ => rfl) ?_
    intro a' c' hd ids w2 hp hf
    have key : bs ≠ [] → ∃ (g : Nat) (cur : List Value), a' = some ⟨g, 0, none⟩ ∧ w2.heap[g]? = some (.cells cur.toArray 5 (0, 0)) ∧ cur.take bs.length = bcells bs ∧ w.heap.size ≤ g := fun hne => by
      have hc : c' ≠ 0 := by
        rcases hf.x.2 with ⟨_, _, q⟩ | ⟨q, _⟩
        · exact absurd (bcells_nil.1 q) hne
        · exact q
      obtain ⟨g, cur, rfl, h1, h2, _, _, _, h3⟩ := rw_open hf.x.2 hc
      exact ⟨g, cur, rfl, h2, by rw [Nat.mul_one] at h3; exact h3, (hd g hc rfl).1⟩
    refine ⟨a', c', rfl, fun hne => ?_, fun hne => ?_, hf.chg.below⟩
    · obtain ⟨g, cur, h1, h2, h3, _⟩ := key hne
      exact ⟨g, cur, h1, h2, h3⟩
    · obtain ⟨g, cur, rfl, _, _, h4⟩ := key hne
      exact h4
theorem copyb_own (a : Option Addr) (cap : Nat) (bs : List Int) (w : World) (H : Cells w a (bcells bs)) (hl : bs.length ≤ 140737488355328) : Calls Try.prog 9 #[.slice a bs.length cap] w (NewOb w bs) := by
  refine calls_at (tab_ok _) Try.func9 rfl tCopyB (ρ := ⟨[], [], [], [bs.length, cap], [a]⟩) (ids := []) (hx := HX.cl a (bcells bs)) rfl (Facts.initq rfl oneNil H (cl_sep H)) ?_
  refine node_makeS Try.underlying22 info_byte rfl bs.length (fun _ => rfl) (fun _ => rfl) (by omega) (by unfold maxLen; omega) (fun _ _ => rfl) rfl rfl (fun _ => rfl) ?_
  intro i hiW hiF
  refine loop_i (CpI a bs i) (fun vs => bs.length - (vs.i.headD 0).toNat) (fun ids w2 hp hf => ⟨_, ⟨hf.x, hf.sep⟩, 0, by omega, rfl, rfl⟩) ?_
  rintro vs hx' hcnt ⟨k, hk1, rfl, rfl⟩
  have hwk : IntKind.i64.wrap ((k : Int) + 1) = ((k + 1 : Nat) : Int) := by rw [wrap_i64 (by omega)]; omega
  by_cases hk : k < bs.length
  · refine br_t (show decide ((k : Int) < (bs.length : Int)) = true by simpa using hk) ?_
    obtain ⟨b, hb⟩ : ∃ b, bs[k]? = some b := ⟨_, List.getElem?_eq_getElem hk⟩
    obtain ⟨s1, c1⟩ := b_elt H hb
    refine need_i ⟨s1, (show (0 : Int) ≤ k by omega), (show (k : Int) < bs.length by omega)⟩ ?_
    refine ⟨⟨[b], [], [], [], []⟩, fun ids => c1 _ (fun e => e), ⟨rfl, oneNil⟩, ?_⟩
    refine need_i ⟨rfl, (show (0 : Int) ≤ k by omega), (show (k : Int) < bs.length by omega)⟩ ?_
    refine node_stores (sz := 1) (some ⟨i, 0, none⟩) bs.length bs.length _ [.int .u8 b] k 0 (.int .u8 b) (by kernel_rfl) (fun _ => rfl) (fun _ => rfl) rfl (by simp [Value.oneCell']) (by simp; omega) (by simp) (fun q hq hab hF => ?_) (fun q hq hab => ?_) rfl rfl rfl ?_
    · cases hab; exact hiF hF
    · cases hab; exact .inl hiW
    · rw [Nat.mul_one, Nat.add_zero, rep_spl bs k b hb]
      intro ids w2 hp hf
      refine ⟨_, ⟨hf.x, hf.sep⟩, _, rfl, ⟨k + 1, by omega, ?_, rfl⟩, ?_⟩
      · show (⟨[IntKind.i64.wrap ((k : Int) + 1)], [], [], [], []⟩ : Vals) = _
        rw [hwk]
      · show bs.length - (IntKind.i64.wrap ((k : Int) + 1)).toNat < bs.length - ((k : Int)).toNat
        rw [hwk]; omega
  · refine br_f (show decide ((k : Int) < (bs.length : Int)) = false by simpa using hk) ?_
    intro ids w2 hp hf
    have hx2 := hf.x.2
    rw [List.take_of_length_le (by omega), show bs.length - k = 0 by omega, List.replicate_zero, List.append_nil] at hx2
    refine ⟨some ⟨i, 0, none⟩, bs.length, rfl, fun hne => ?_, fun _ => hiW, hf.chg.below⟩
    obtain ⟨g, cur, e, h1, h2, _, _, _, h3⟩ := rw_open hx2 (by intro q; exact hne (List.eq_nil_of_length_eq_zero q))
    exact ⟨g, cur, e, h2, by rw [Nat.mul_one] at h3; exact h3⟩
section
variable {C : Cfg} {ρ : Env} {pre : List Nat} {hx rest : HX} {L : Stack} {m m' : Mem} {args : List SV} {r : SV} {t : Tree} {ty : Nat} {ps : List (Nat × SV)}
theorem node_newob {f : Nat} {sa : List Nat → Option Addr} {cap : Nat} {bs : List Int} (hcall : ∀ w a, Cells w a (bcells bs) → Calls C.P f #[.slice a bs.length cap] w (NewOb w bs)) (hcells : ∀ ids w, pre <+: ids → Facts C m ρ ids hx w → Cells w (sa ids) (bcells bs)) (hargs : ∀ ids, (args.map (SV.den ρ ids)).toArray = #[.slice (sa ids) bs.length cap])
    (hr : ∀ a' c' ids, r.den (ρ.add ⟨[], [], [], [bs.length, c'], [a']⟩) ids = .slice a' bs.length c') (hhp : m'.hp = m.hp) (hfit : hpFits m.c m.hp.length m.hp = true) (hc : ∀ a' c', (ρ.add ⟨[], [], [], [bs.length, c'], [a']⟩).cnt = m'.c)
    (h : ∀ a' c', (bs ≠ [] → a'.isSome = true ∧ C.W.heap.size ≤ blk a' ∧ ¬ hx.F (blk a')) → t.holds C (ρ.add ⟨[], [], [], [bs.length, c'], [a']⟩) pre (hx.and (HX.ob a' bs)) L) : (Tree.call f args m r m' t).holds C ρ pre hx L := by
  intro ids w hp hf
  rw [hargs]
  refine (hcall w _ (hcells ids w hp hf)).mono ?_
  rintro e w' ⟨a', c', rfl, hX, hge, hbel⟩
  have hg : w.grownBy w' none := ⟨hbel.os, hbel.tape, hbel.output, hbel.size, fun k hk _ => hbel.block k hk⟩
  refine ⟨_, ids, _, by rw [← hr a' c' ids], List.prefix_refl _, hf.turn (hx' := hx.and (HX.ob a' bs)) hg (fun b e => by cases e) ⟨hx.loc w w' hf.x fun k hk => hbel.block k (hf.sep k hk).1, hX⟩ (fun k hk => ?_) hhp hfit (hc _ _) oneNil, holds_pre t hp (h a' c' (fun hne => ⟨by obtain ⟨g, cur, q, _⟩ := hX hne; rw [q]; rfl, Nat.le_trans hf.chg.size (hge hne), fun q => by have := (hf.sep _ q).1; have := hge hne; omega⟩))⟩
  rcases hk with hk | hk
  · exact .inl hk
  · refine .inr ⟨?_, cl_sep hX.cells k (ob_cl.2 hk)⟩
    obtain ⟨h1, rfl⟩ := hk
    exact hge h1
end
/-- Bytes of packets, each in a block, known. -/
def HX.obs (ps : List Pk) : HX := ⟨fun k => ∃ p ∈ ps, p.bs ≠ [] ∧ k = Go.Syn.blk p.a, fun w => ∀ p ∈ ps, OwnB w p.a p.bs, fun w w' h e p hp => (HX.ob p.a p.bs).loc w w' (h p hp) fun b hb => e b ⟨p, hp, hb⟩⟩
def lsHX (a : Option Addr) (cap : Nat) (ps : List Pk) : HX := (HX.obs ps).and (HX.rw 3 30 a ps.length cap (pcells ps))
def ApartO (a : Option Addr) (cap : Nat) (ps : List Pk) : Prop := ∀ k, cap ≠ 0 → abk a = some k → ¬ (HX.obs ps).F k
/-- The packets, cloned. -/
def ListR2 (w : World) (D : List PkD) (e : Ending) (w' : World) : Prop :=
  ∃ a2 c2 qs, qs.map Pk.d = D ∧ e = .returned (.slice a2 qs.length c2) ∧ (lsHX a2 c2 qs).X w' ∧ ApartO a2 c2 qs ∧ (∀ k, (lsHX a2 c2 qs).F k → w.heap.size ≤ k ∧ k < w'.heap.size) ∧ Below w.heap.size w w'
def LiI2 (W : World) (a : Option Addr) (cap : Nat) (ps : List Pk) (vs : Vals) (hx : HX) : Prop :=
  ∃ (k : Nat) (a2 : Option Addr) (c2 : Nat) (qs : List Pk), k ≤ ps.length ∧ qs.map Pk.d = (ps.take k).map Pk.d ∧ ApartO a2 c2 qs ∧ (∀ j, (lsHX a2 c2 qs).F j → W.heap.size ≤ j) ∧ vs = ⟨[(k : Int)], [], [], [qs.length, c2], [a2]⟩ ∧ hx = (netHX a cap ps).and (lsHX a2 c2 qs)
set_option maxRecDepth 100000 in
theorem list_own (nb : Nat) (a : Option Addr) (cap : Nat) (ps : List Pk) (w : World) (H : NetAt w nb a cap ps) (hn : ps.length ≤ 1000000) (hb : bsOk ps) : Calls Try.prog 19 #[.pointer (some ⟨nb, 0, none⟩)] w (ListR2 w (ps.map Pk.d)) := by
  refine calls_at (tab_ok _) Try.func19 rfl tNList (ρ := ⟨[], [], [], [ps.length, cap], [a]⟩) (ids := [nb]) (hx := netHX a cap ps) (M := fun x => x = nb) rfl (Facts.initx rfl oneNil H.blk rfl rfl H.mem H.sep) ?_
  refine loop_i (LiI2 w a cap ps) (fun vs => ps.length - (vs.i.headD 0).toNat) (fun ids w2 hp hf => ⟨(netHX a cap ps).and (lsHX none 0 []), ⟨⟨hf.x, ⟨fun p hp => by simp at hp, HX.rw_nil _ _ _ _⟩⟩, fun b hbb => ?_⟩, 0, none, 0, [], by omega, rfl, fun k q => absurd rfl q, fun j hj => ?_, rfl, rfl⟩) ?_
  · rcases hbb with hbb | ⟨p, hp, _⟩ | hbb
    · exact hf.sep b hbb
    · simp at hp
    · exact absurd rfl hbb.1
  · rcases hj with ⟨p, hp, _⟩ | hj
    · simp at hp
    · exact absurd rfl hj.1
  rintro vs hx' hcnt ⟨k, a2, c2, qs, hk1, hD, hap, hnew, rfl, rfl⟩
  have hwk : IntKind.i64.wrap ((k : Int) + 1) = ((k + 1 : Nat) : Int) := by rw [wrap_i64 (by omega)]; omega
  have hqk : qs.length = k := by have := congrArg List.length hD; simp at this; omega
  by_cases hk : k < ps.length
  · refine br_t (show decide ((k : Int) < (ps.length : Int)) = true by simpa using hk) ?_
    obtain ⟨p, hpk⟩ : ∃ p, ps[k]? = some p := ⟨_, List.getElem?_eq_getElem hk⟩
    have hpm := List.mem_of_getElem? hpk
    refine need_i ⟨net_some H.mem hpk, (show (0 : Int) ≤ k by omega), (show (k : Int) < ps.length by omega)⟩ ?_
    refine node_ld ⟨[p.f, p.t], [], [], [p.bs.length, p.c], [p.a]⟩ (fun ids w2 hp hf => (net_elt hf.x.1 hpk).2 _ (fun e => e)) (fun ids w2 hf => ⟨rfl, oneNil⟩) ?_
    refine node_newob (bs := p.bs) (cap := p.c) (sa := fun _ => p.a) (fun w a h => clone_own a p.c p.bs w h (hb p hpm)) (fun ids w2 hp hf => hf.x.1.1 p hpm) (fun _ => rfl) (fun _ _ _ => rfl) rfl rfl (fun _ _ => rfl) ?_
    intro a3 c3 hcl
    have hclF : ∀ j, (HX.ob a3 p.bs).F j → w.heap.size ≤ j ∧ ¬ ((netHX a cap ps).and (lsHX a2 c2 qs)).F j := fun j hj => by
      obtain ⟨q, rfl⟩ := hj
      exact (hcl q).2
    have eq1 : ((netHX a cap ps).and (lsHX a2 c2 qs)).and (HX.ob a3 p.bs) = (((netHX a cap ps).and (HX.obs qs)).and (HX.ob a3 p.bs)).and (HX.rw 3 30 a2 qs.length c2 (pcells qs)) := by
      rw [show lsHX a2 c2 qs = (HX.obs qs).and (HX.rw 3 30 a2 qs.length c2 (pcells qs)) from rfl, ← HX.and_assoc]
      exact HX.and_right_comm _ _ _
    rw [eq1]
    refine node_pushs (sz := 3) (vs := [.int .i64 p.f, .int .i64 p.t, .slice a3 p.bs.length c3]) rfl Try.underlying38 info_pk rfl (by decide) a2 qs.length c2 (pcells qs) 2 (fun _ => rfl) (fun _ => rfl) rfl (fun _ => rfl) rfl (by simp [Value.oneCell']) (fun j h5 h6 hF => ?_) (fun j h5 h6 => .inl (hnew j (.inr ⟨h5, h6⟩))) (by unfold maxLen; omega) (by omega) (fun _ _ _ => rfl) rfl rfl (fun _ _ => rfl) ?_
    · rcases hF with (hF | hF) | hF
      · have := (H.sep j hF).1; have := hnew j (.inr ⟨h5, h6⟩); omega
      · exact hap j h5 h6 hF
      · exact (hclF j hF).2 (.inr (.inr ⟨h5, h6⟩))
    intro a4 c4 hc4 hd4 hfr ids w2 hp hf
    have epc : pcells (qs ++ [(⟨p.f, p.t, a3, c3, p.bs⟩ : Pk)]) = pcells qs ++ [.int .i64 p.f, .int .i64 p.t, .slice a3 p.bs.length c3] := by simp [pcells, Pk.cells]
    have el : (qs ++ [(⟨p.f, p.t, a3, c3, p.bs⟩ : Pk)]).length = qs.length + 1 := by simp
    have hdF : ∀ j, (HX.obs (qs ++ [(⟨p.f, p.t, a3, c3, p.bs⟩ : Pk)])).F j → (((netHX a cap ps).and (HX.obs qs)).and (HX.ob a3 p.bs)).F j ∧ w.heap.size ≤ j := fun j hj => by
      obtain ⟨q, hq, h5, rfl⟩ := hj
      rcases List.mem_append.1 hq with hq | hq
      · exact ⟨.inl (.inr ⟨q, hq, h5, rfl⟩), hnew _ (.inl ⟨q, hq, h5, rfl⟩)⟩
      · simp only [List.mem_singleton] at hq; subst hq
        have : (HX.ob a3 p.bs).F (blk a3) := ⟨h5, rfl⟩
        exact ⟨.inr this, (hclF _ this).1⟩
    refine ⟨(netHX a cap ps).and (lsHX a4 c4 (qs ++ [(⟨p.f, p.t, a3, c3, p.bs⟩ : Pk)])), ⟨⟨hf.x.1.1.1, fun q hq => ?_, by rw [epc, el]; exact hf.x.2⟩, fun b hbb => ?_⟩, _, rfl, ⟨k + 1, a4, c4, qs ++ [(⟨p.f, p.t, a3, c3, p.bs⟩ : Pk)], by omega, ?_, fun j _ hj hF => hd4 j hj (hdF j hF).1, fun j hj => ?_, ?_, rfl⟩, ?_⟩
    · rcases List.mem_append.1 hq with hq | hq
      · exact hf.x.1.1.2 q hq
      · simp only [List.mem_singleton] at hq; subst hq; exact hf.x.1.2
    · rcases hbb with hbb | hbb | hbb
      · exact hf.sep b (.inl (.inl (.inl hbb)))
      · exact hf.sep b (.inl (hdF b hbb).1)
      · exact hf.sep b (.inr hbb)
    · rw [List.map_append, hD, List.take_add_one, hpk]; simp [Pk.d]
    · rcases hj with hj | hj
      · exact (hdF j hj).2
      · rcases hfr with ⟨q1, q2⟩ | ⟨g, q1, q2, _⟩
        · exact hnew j (.inr ⟨q1, by rw [← q2]; exact hj.2⟩)
        · have := hj.2
          rw [q1] at this; cases this; exact q2
    · show (⟨[IntKind.i64.wrap ((k : Int) + 1)], [], [], [qs.length + 1, c4], [a4]⟩ : Vals) = _
      rw [hwk, el]
    · show ps.length - (IntKind.i64.wrap ((k : Int) + 1)).toNat < ps.length - ((k : Int)).toNat
      rw [hwk]; omega
  · refine br_f (show decide ((k : Int) < (ps.length : Int)) = false by simpa using hk) ?_
    intro ids w2 hp hf
    have h0 := hf.blkAt 0 rfl
    rw [idAt0 hp] at h0
    exact ⟨a2, c2, qs, by rw [hD, List.take_of_length_le (by omega)], rfl, hf.x.2, hap, fun j hj => ⟨hnew j hj, (hf.sep j (.inr hj)).1⟩, (Chg.same hf.chg (h0.trans H.blk.symm)).below⟩
end Go.Proofs.Yteeecfdcebcbbaa
