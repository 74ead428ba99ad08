/- Part 14 of the texts of a proof about the given program: what the statement's proof needs of them. -/
import Derived.Test.YtbedoemdjlollaaKJudgeMerges13
namespace Go.Proofs.Ytbedoemdjlollaa
open Go.ChangeShapes Go.WideShapes Go.ChangeAt Go.RowKit Go.Syn Go.Eng
set_option linter.unusedVariables false
set_option linter.unusedSimpArgs false
set_option maxRecDepth 100000
def kRow (e : SE) : HX := HX.rw 4 143 e.a e.s.kept.length e.c (kcells e.s.kept)
def ksR (es : List SE) : HX := ⟨fun k => ∃ e ∈ es, (kRow e).F k, fun w => ∀ e ∈ es, (kRow e).X w, fun w w' h he e hm => (kRow e).loc w w' (h e hm) fun k hk => he k ⟨e, hm, hk⟩⟩
theorem ksR_snoc (es : List SE) (e : SE) : ksR (es ++ [e]) = (ksR es).and (kRow e) := HX.ext (by
    funext k
    refine propext ⟨?_, ?_⟩
    · rintro ⟨x, hx, hk⟩
      rcases List.mem_append.1 hx with hx | hx
      · exact .inl ⟨x, hx, hk⟩
      · rw [List.mem_singleton.1 hx] at hk; exact .inr hk
    · rintro (⟨x, hx, hk⟩ | hk)
      · exact ⟨x, List.mem_append_left _ hx, hk⟩
      · exact ⟨e, List.mem_append_right _ (List.mem_singleton.2 rfl), hk⟩) (by
    funext w
    refine propext ⟨fun h => ⟨fun x hx => h x (List.mem_append_left _ hx), h e (List.mem_append_right _ (List.mem_singleton.2 rfl))⟩, ?_⟩
    rintro ⟨h1, h2⟩ x hx
    rcases List.mem_append.1 hx with hx | hx
    · exact h1 x hx
    · rw [List.mem_singleton.1 hx]; exact h2)
theorem ksR_split {es : List SE} {i : Nat} {e : SE} (h : es[i]? = some e) : ksR es = (ksR (es.eraseIdx i)).and (kRow e) := HX.ext (by
    funext k
    refine propext ⟨?_, ?_⟩
    · rintro ⟨x, hx, hk⟩
      obtain ⟨j, hj⟩ := List.mem_iff_getElem?.1 hx
      by_cases hij : j = i
      · subst hij; rw [h] at hj; cases hj; exact .inr hk
      · refine .inl ⟨x, List.mem_iff_getElem?.2 ?_, hk⟩
        rcases Nat.lt_or_ge j i with q | q
        · exact ⟨j, by rw [List.getElem?_eraseIdx, if_pos q]; exact hj⟩
        · exact ⟨j - 1, by rw [List.getElem?_eraseIdx, if_neg (by omega), show j - 1 + 1 = j by omega]; exact hj⟩
    · rintro (⟨x, hx, hk⟩ | hk)
      · exact ⟨x, List.mem_of_mem_eraseIdx hx, hk⟩
      · exact ⟨e, List.mem_of_getElem? h, hk⟩) (by
    funext w
    refine propext ⟨fun hX => ⟨fun x hx => hX x (List.mem_of_mem_eraseIdx hx), hX e (List.mem_of_getElem? h)⟩, ?_⟩
    rintro ⟨h1, h2⟩ x hx
    obtain ⟨j, hj⟩ := List.mem_iff_getElem?.1 hx
    by_cases hij : j = i
    · subst hij; rw [h] at hj; cases hj; exact h2
    · refine h1 x (List.mem_iff_getElem?.2 ?_)
      rcases Nat.lt_or_ge j i with q | q
      · exact ⟨j, by rw [List.getElem?_eraseIdx, if_pos q]; exact hj⟩
      · exact ⟨j - 1, by rw [List.getElem?_eraseIdx, if_neg (by omega), show j - 1 + 1 = j by omega]; exact hj⟩)
def tRow (a : Option Addr) (c : Nat) (es : List SE) : HX := HX.rw 3 141 a es.length c (secells es)
def tabR (a : Option Addr) (c : Nat) (es : List SE) : HX := (ksR es).and (tRow a c es)
structure Dj (a : Option Addr) (c : Nat) (es : List SE) : Prop where
  two : ∀ (i j : Nat) (e e' : SE), i ≠ j → es[i]? = some e → es[j]? = some e' → ∀ k, (kRow e).F k → ¬ (kRow e').F k
  tab : ∀ e ∈ es, ∀ k, (kRow e).F k → ¬ (tRow a c es).F k
structure TbAt (w : World) (a : Option Addr) (es : List SE) : Prop where
  row : Cells w a (secells es)
  each : ∀ e ∈ es, Cells w e.a (kcells e.s.kept)
theorem tabR_at {a : Option Addr} {c : Nat} {es : List SE} {w : World} (h : (tabR a c es).X w) : TbAt w a es := ⟨rw_cells h.2, fun e he => rw_cells (h.1 e he)⟩
theorem TbAt.keep {w w' : World} {a : Option Addr} {es : List SE} (h : TbAt w a es) (hb : ∀ k, k < w.heap.size → w'.heap[k]? = w.heap[k]?) : TbAt w' a es := ⟨cl_stay h.row hb, fun e he => cl_stay (h.each e he) hb⟩
theorem tabR_lt {a : Option Addr} {c : Nat} {es : List SE} {w : World} (h : (tabR a c es).X w) : ∀ k, (tabR a c es).F k → k < w.heap.size := by
  rintro k (⟨e, he, hk⟩ | hk)
  · exact rw_blt (h.1 e he) hk.1 hk.2
  · exact rw_blt h.2 hk.1 hk.2
theorem sec_ne {es : List SE} (h : es ≠ []) : secells es ≠ [] := fun q => by
  have := congrArg List.length q
  rw [secells_len] at this
  cases es with
  | nil => exact h rfl
  | cons x r => simp at this
theorem kc_ne {l : List KpD} (h : l ≠ []) : kcells l ≠ [] := fun q => by
  have := congrArg List.length q
  rw [kcells_len] at this
  cases l with
  | nil => exact h rfl
  | cons x r => simp at this
structure Sm (a : Option Addr) (es : List SE) : Prop where
  tab : es ≠ [] → a.isSome = true
  each : ∀ e ∈ es, e.s.kept ≠ [] → e.a.isSome = true
def TbNew (w : World) (V : Value → Value) (t : List SsD) (r : Ending) (w' : World) : Prop := ∃ a c es, es.map SE.s = t ∧ r = .returned (V (.slice a t.length c)) ∧ Dj a c es ∧ (tabR a c es).X w' ∧ (∀ k, (tabR a c es).F k → w.heap.size ≤ k) ∧ Below w.heap.size w w'
section
variable {C : Cfg} {ρ : Env} {pre : List Nat} {hx : HX} {L : Stack} {m m' : Mem} {args : List SV} {r : SV} {t : Tree}
theorem node_tb {f : Nat} {V : Value → Value} {tb : List SsD} (AS : List Nat → Array Value) (vs : Option Addr → Nat → Vals) (hargs : ∀ ids, (args.map (SV.den ρ ids)).toArray = AS ids) (hcall : ∀ ids w, pre <+: ids → Facts C m ρ ids hx w → Calls C.P f (AS ids) w (TbNew w V tb))
    (hr : ∀ a' c' ids, r.den (ρ.add (vs a' c')) ids = V (.slice a' tb.length c')) (hhp : m'.hp = m.hp) (hfit : hpFits m.c m.hp.length m.hp = true) (hc : ∀ a' c', (ρ.add (vs a' c')).cnt = m'.c) (h1 : ∀ a' c' v, v ∈ (vs a' c').v → v.oneCell' = true)
    (h : ∀ a' c' es, es.map SE.s = tb → Dj a' c' es → Sm a' es → (∀ k, (tabR a' c' es).F k → C.W.heap.size ≤ k ∧ ¬ hx.F k) → t.holds C (ρ.add (vs a' c')) pre (hx.and (tabR a' c' es)) L) : (Tree.call f args m r m' t).holds C ρ pre hx L := by
  refine node_out AS (fun u hy => ∃ a' c' es, es.map SE.s = tb ∧ Dj a' c' es ∧ Sm a' es ∧ u = vs a' c' ∧ hy = tabR a' c' es) hargs (fun ids w hp hf => ?_) hhp hfit ?_ ?_
  · refine (hcall ids w hp hf).mono ?_
    rintro e w' ⟨a', c', es, h1, rfl, h2, hX, hge, hb⟩
    exact ⟨_, _, ⟨a', c', es, h1, h2, ⟨fun q => rw_sm hX.2 (sec_ne q), fun e he q => rw_sm (hX.1 e he) (kc_ne q)⟩, rfl, rfl⟩, by rw [hr], hX, fun k hk => ⟨hge k hk, tabR_lt hX k hk⟩, hb⟩
  · rintro u hy ⟨a', c', es, _, _, _, rfl, rfl⟩
    exact ⟨hc _ _, h1 _ _⟩
  · rintro u hy ⟨a', c', es, q1, q2, q3, rfl, rfl⟩ hfr
    exact h a' c' es q1 q2 q3 hfr
end
def CnI (W : World) (a1 : Option Addr) (c1 : Nat) (es : List SE) (vs : Vals) (hx : HX) : Prop := ∃ (k : Nat) (ds : List SE), k ≤ es.length ∧ ds.length = k ∧ ds.map SE.s = (es.take k).map SE.s ∧ (∀ e ∈ ds, ∀ j, (kRow e).F j → W.heap.size ≤ j ∧ ¬ (c1 ≠ 0 ∧ abk a1 = some j)) ∧
  (∀ (i j : Nat) (e e' : SE), i ≠ j → ds[i]? = some e → ds[j]? = some e' → ∀ k, (kRow e).F k → ¬ (kRow e').F k) ∧
  vs = ⟨[(k : Int)], [], [], [], []⟩ ∧ hx = (HX.nil.and (ksR ds)).and (HX.rw 3 141 a1 es.length c1 (secells (ds ++ es.drop k)))
set_option maxHeartbeats 1000000 in
theorem tclone_any (a : Option Addr) (cap : Nat) (es : List SE) (w : World) (H : TbAt w a es) (hl : es.length ≤ 1000000) (hk : ∀ e ∈ es, e.s.kept.length ≤ 1000000) : Calls Try.prog 54 #[.slice a es.length cap] w (TbNew w id (es.map SE.s)) := by
  refine calls_at (tab_ok _) Try.func54 rfl tTClone (ρ := ⟨[], [], [], [es.length, cap], [a]⟩) (ids := []) (hx := HX.nil) rfl (Facts.initP rfl oneNil) ?_
  have keep : ∀ {m : Mem} {ρ : Env} {ids : List Nat} {hx : HX} {w2 : World} {R : Ending → World → Prop}, Facts ⟨Try.prog, w, fun _ => False, R⟩ m ρ ids hx w2 → TbAt w2 a es := fun hf => H.keep (fun k hk => hf.chg.block k hk (fun q => q))
  refine node_rwn (V := id) (sz := 3) (e := 141) (n := es.length) (xs := secells es) (fun _ => #[.slice a es.length cap]) (fun a' c' => ⟨[], [], [], [es.length, c'], [a']⟩) (by intros; kernel_rfl) (fun ids w2 hp hf => clt_any a cap es w2 (keep hf).row hl) (by intros; kernel_rfl) (by kernel_rfl) (by kernel_rfl) (by intros; kernel_rfl) (fun _ _ => oneNil) ?_
  intro a1 c1 hs1 hn1
  refine loop_i (CnI w a1 c1 es) (fun vs => es.length - (vs.i.headD 0).toNat) (fun ids w2 hp hf => ⟨(HX.nil.and (ksR [])).and (HX.rw 3 141 a1 es.length c1 (secells es)), ⟨⟨⟨trivial, fun e he => by cases he⟩, hf.x.2⟩, fun j hj => hj.elim (fun q => q.elim (fun q => q.elim) (fun ⟨e, he, _⟩ => by cases he)) (fun q => hf.sep j (.inr q))⟩, 0, [], Nat.zero_le _, rfl, rfl, (fun e he => by cases he), (fun i j e e' _ h => by simp at h), rfl, rfl⟩) ?_
  rintro vs hx' hcnt ⟨k, ds, hk1, hdl, hdm, hdf, hdj, rfl, rfl⟩
  refine holds_env (ρ' := ⟨[(k : Int)], [], [], [es.length, cap, es.length, c1], [a, a1]⟩) (by kernel_rfl) ?_
  by_cases hlt : k < es.length
  · refine br_T (decide ((k : Int) < (es.length : Int))) (by kernel_rfl) (decide_eq_true (by omega)) ?_
    have hwk : IntKind.i64.wrap ((k : Int) + 1) = ((k + 1 : Nat) : Int) := by rw [wrap_i64 (by omega)]; omega
    obtain ⟨e, he⟩ : ∃ e, es[k]? = some e := ⟨_, List.getElem?_eq_getElem hlt⟩
    have hem := List.mem_of_getElem? he
    have hel : (ds ++ es.drop k)[k]? = some e := by rw [List.getElem?_append_right (by omega), hdl, Nat.sub_self, List.getElem?_drop, Nat.add_zero]; exact he
    have hsm := hs1 (fun q => by
      have := congrArg List.length q
      rw [secells_len] at this
      simp at this; omega)
    refine need_k (a1.isSome = true ∧ (0 : Int) ≤ k ∧ (k : Int) < es.length) (by kernel_rfl) ⟨hsm, by omega, by omega⟩ ?_
    refine node_ldk ⟨[], [], [], [e.s.kept.length, e.c], [e.a]⟩ (fun _ => .pointer (some (((a1.getD ⟨0, 0, none⟩).add (k * 3)).add 2))) [.slice e.a e.s.kept.length e.c] (by intros; kernel_rfl) (by intros; kernel_rfl) (fun ids w2 hp hf => (flat_part se_len (rw_cells hf.x.2) hel (o := 2) [.slice e.a e.s.kept.length e.c] (fun j u hj => by cases j with | zero => exact hj | succ j => simp at hj) (by simp)).2 _ (fun q => q)) (by kernel_rfl) oneNil ?_
    refine node_rwn (V := id) (sz := 4) (e := 143) (n := e.s.kept.length) (xs := kcells e.s.kept) (fun _ => #[.slice e.a e.s.kept.length e.c]) (fun a' c' => ⟨[], [], [], [e.s.kept.length, c'], [a']⟩) (by intros; kernel_rfl) (fun ids w2 hp hf => clk_any e.a e.c e.s.kept w2 ((keep hf).each e hem) (hk e hem)) (by intros; kernel_rfl) (by kernel_rfl) (by kernel_rfl) (by intros; kernel_rfl) (fun _ _ => oneNil) ?_
    intro a2 c2 _ hn2
    obtain ⟨e', ee'⟩ : ∃ e' : SE, e' = ⟨e.s, a2, c2⟩ := ⟨_, rfl⟩
    refine need_k (a1.isSome = true ∧ (0 : Int) ≤ k ∧ (k : Int) < es.length) (by kernel_rfl) ⟨hsm, by omega, by omega⟩ ?_
    refine holds_eq (show _ = ((HX.nil.and (ksR ds)).and (kRow e')).and (HX.rw 3 141 a1 es.length c1 (secells (ds ++ es.drop k))) from by rw [HX.and_right_comm, ee']; rfl) ?_
    refine node_stores (sz := 3) a1 es.length c1 (secells (ds ++ es.drop k)) [.slice a2 e.s.kept.length c2] k 2 (.slice a2 e.s.kept.length c2) (by kernel_rfl) (by intros; kernel_rfl) (by intros; kernel_rfl) rfl (by simp [Value.oneCell']) (by simp; omega) (by simp) (fun q h1 h2 hF => ?_) (fun q h1 h2 => .inl (hn1 q h1 h2).1) (by kernel_rfl) (by kernel_rfl) (by kernel_rfl) ?_
    · rcases hF with (hF | ⟨x, hx, hF⟩) | hF
      · exact hF
      · exact (hdf x hx q hF).2 ⟨h1, h2⟩
      · rw [ee'] at hF; exact (hn2 q hF.1 hF.2).2 (.inr ⟨h1, h2⟩)
    have hset : spl (secells (ds ++ es.drop k)) (k * 3 + 2) [.slice a2 e.s.kept.length c2] = secells ((ds ++ [e']) ++ es.drop (k + 1)) := by
      have := flat_spl se_len (e' := e') hel (o := 2) (us := [.slice a2 e.s.kept.length c2]) (by simp) (by rw [ee']; rfl)
      unfold secells
      rw [this]
      congr 1
      have hdr : es.drop k = e :: es.drop (k + 1) := by
        obtain ⟨h1, h2⟩ := List.getElem?_eq_some_iff.1 he
        rw [List.drop_eq_getElem_cons h1, h2]
      rw [hdr, List.set_append_right _ _ (by omega), hdl, Nat.sub_self, List.set_cons_zero, List.append_assoc]; rfl
    rw [hset]
    refine again_V ⟨[((k + 1 : Nat) : Int)], [], [], [], []⟩ rfl (fun ids => Eq.trans (b := ⟨[IntKind.i64.wrap ((k : Int) + 1)], [], [], [], []⟩) (by kernel_rfl) (by rw [hwk])) _ (fun w2 ids hf => ⟨hf.x, hf.sep⟩) ⟨⟨k + 1, ds ++ [e'], by omega, by rw [List.length_append, hdl]; rfl, ?_, ?_, ?_, rfl, by rw [ksR_snoc, ← HX.and_assoc]⟩, ?_⟩
    · rw [List.map_append, hdm, List.take_add_one, he, List.map_append, ee']; rfl
    · intro x hx j hj
      rcases List.mem_append.1 hx with hx | hx
      · exact hdf x hx j hj
      · rw [List.mem_singleton.1 hx, ee'] at hj
        exact ⟨(hn2 j hj.1 hj.2).1, fun q => (hn2 j hj.1 hj.2).2 (.inr q)⟩
    · have new : ∀ x ∈ ds, ∀ q, (kRow x).F q → ¬ (kRow e').F q := fun x hx q h1 h2 => by
        rw [ee'] at h2
        exact (hn2 q h2.1 h2.2).2 (.inl (.inr ⟨x, hx, h1⟩))
      intro i j x y hij hx hy q h1 h2
      rw [List.getElem?_append] at hx hy
      split at hx
      · rename_i hi
        split at hy
        · exact hdj i j x y hij hx hy q h1 h2
        · have : y = e' := by
            have := List.mem_of_getElem? hy
            exact List.mem_singleton.1 this
          exact new x (List.mem_of_getElem? hx) q h1 (this ▸ h2)
      · have hx' : x = e' := List.mem_singleton.1 (List.mem_of_getElem? hx)
        split at hy
        · exact new y (List.mem_of_getElem? hy) q h2 (hx' ▸ h1)
        · rename_i h3 h4
          have a1 : i - ds.length < 1 := by
            rcases Nat.lt_or_ge (i - ds.length) 1 with z | z
            · exact z
            · rw [List.getElem?_eq_none (by simpa using z)] at hx; cases hx
          have a2 : j - ds.length < 1 := by
            rcases Nat.lt_or_ge (j - ds.length) 1 with z | z
            · exact z
            · rw [List.getElem?_eq_none (by simpa using z)] at hy; cases hy
          omega
    · show es.length - (((k + 1 : Nat) : Int)).toNat < es.length - ((k : Int)).toNat
      omega
  · refine br_F (decide ((k : Int) < (es.length : Int))) (by kernel_rfl) (decide_eq_false (by omega)) ?_
    obtain rfl : k = es.length := by omega
    rw [List.take_length] at hdm
    rw [List.drop_length, List.append_nil]
    intro ids w2 hp hf
    refine ⟨a1, c1, ds, hdm, ?_, ⟨hdj, fun e he j hj q => (hdf e he j hj).2 q⟩, ⟨hf.x.1.2, ?_⟩, ?_, hf.chg.below⟩
    · rw [List.length_map]; kernel_rfl
    · unfold tRow; rw [hdl]; exact hf.x.2
    · rintro j (⟨e, he, hj⟩ | hj)
      · exact (hdf e he j hj).1
      · exact (hn1 j hj.1 hj.2).1
end Go.Proofs.Ytbedoemdjlollaa

namespace Go.Proofs.Ytbedoemdjlollaa
open Go.ChangeShapes Go.WideShapes Go.ChangeAt Go.RowKit Go.Syn Go.Eng
set_option linter.unusedVariables false
set_option linter.unusedSimpArgs false
set_option maxRecDepth 100000
def pSe (tt : Option Addr) (i : Nat) : Value := .pointer (some (((tt.getD ⟨0, 0, none⟩).add (i * 3)).add 0))
def fAsk (b : Nat) : Value := .func (.func 74) #[] #[.pointer (some ⟨b, 0, none⟩)]
theorem pureS_same {P : Program} {w : World} {b tb : Nat} {us : List Value} {R : Ending → World → Prop} {m : Mem} {ρ : Env} {ids : List Nat} {hx : HX} {w2 : World} (hf : Facts ⟨P, w, fun x => x = b, R⟩ m ρ ids hx w2) (h2 : Blk w2 b us tb) (h1 : Blk w b us tb) : Below w.heap.size w w2 := (hf.chg.same (h2.trans h1.symm)).below
theorem ask1_any (k : KpD) (b : Nat) (tt : Option Addr) (es : List SE) (i : Nat) (e : SE) (w : World) (hb : Blk w b [pSe tt i] 149) (Ht : Cells w tt (secells es)) (he : es[i]? = some e) (hne : blk tt ≠ b) : Calls Try.prog 74 #[.agg k.cells.toArray, .pointer (some ⟨b, 0, none⟩)] w (PureAt w (.bool (decide (k.seq ≤ e.s.ack)))) := by
  refine calls_at (tab_ok _) Try.func74 rfl tAsk1 (ρ := ⟨[k.seq, k.kind, k.re, k.im, (i : Int)], [], [], [], [tt]⟩) (ids := [b]) (hx := HX.cl tt (secells es)) (M := fun x => x = b) rfl (Facts.initx rfl oneNil hb (by kernel_rfl) rfl Ht (fun k hk => ⟨cl_sep Ht k hk, fun q => hne (by obtain ⟨_, q2⟩ := hk; rw [← q2, q])⟩)) ?_
  refine node_ldk ⟨[e.s.ack], [], [], [], []⟩ (fun _ => .pointer (some (((tt.getD ⟨0, 0, none⟩).add (i * 3)).add 1))) [.int .i64 e.s.ack] (by intros; kernel_rfl) (by intros; kernel_rfl) (fun ids w2 hp hf => (flat_part se_len hf.x he (o := 1) [.int .i64 e.s.ack] (fun j u hj => by cases j with | zero => exact hj | succ j => simp at hj) (by simp)).2 _ (fun q => q)) (by kernel_rfl) oneNil ?_
  intro ids w2 hp hf
  have e0 := hf.blkAt 0 rfl
  rw [idAt0 hp] at e0
  exact ⟨by kernel_rfl, pureS_same hf e0 hb⟩
theorem tw_of {α : Type} {q : α → Bool} {l : List α} : ∀ {i : Nat}, i ≤ l.length → (∀ (x : Nat) (k : α), x < i → l[x]? = some k → q k = true) → (∀ k, l[i]? = some k → q k = false) → (l.takeWhile q).length = i := by
  induction l with
  | nil => intro i h _ _; simp at h; subst h; rfl
  | cons k r ih =>
    intro i h h1 h2
    cases i with
    | zero => rw [List.takeWhile_cons, h2 k rfl]; rfl
    | succ i =>
      rw [List.takeWhile_cons, h1 0 k (Nat.zero_lt_succ _) rfl]
      show (r.takeWhile _).length + 1 = i + 1
      rw [ih (i := i) (by rw [List.length_cons] at h; omega) (fun x y hx hy => h1 (x + 1) y (by omega) (by simpa using hy)) (fun y hy => h2 y (by simpa using hy))]
def live (ack : Int) (k : KpD) : Bool := decide (ack < k.seq)
def fstI (ack : Int) (l : List KpD) : Nat := (l.takeWhile (live ack)).length
def IdI (ack : Int) (l : List KpD) (hx0 : HX) (vs : Vals) (hx : HX) : Prop := ∃ j : Nat, j ≤ l.length ∧ (∀ (x : Nat) (k : KpD), x < j → l[x]? = some k → live ack k = true) ∧ vs = ⟨[(j : Int)], [], [], [], []⟩ ∧ hx = hx0
theorem idxk_any (a : Option Addr) (cap : Nat) (l : List KpD) (b : Nat) (tt : Option Addr) (es : List SE) (i : Nat) (e : SE) (w : World) (H : Cells w a (kcells l)) (hl : l.length ≤ 1000000) (hb : Blk w b [pSe tt i] 149) (Ht : Cells w tt (secells es)) (he : es[i]? = some e) (hne : blk tt ≠ b) (hna : l ≠ [] → blk a ≠ b) :
    Calls Try.prog 87 #[.slice a l.length cap, fAsk b] w (PureAt w (.int .i64 (if fstI e.s.ack l = l.length then -1 else (fstI e.s.ack l : Int)))) := by
  refine calls_at (tab_ok _) Try.func87 rfl tIdxK (ρ := ⟨[(i : Int)], [], [], [l.length, cap], [a, tt]⟩) (ids := [b]) (hx := (HX.cl tt (secells es)).and (HX.cl a (kcells l))) (M := fun x => x = b) rfl (Facts.initx rfl oneNil hb (by kernel_rfl) rfl ⟨Ht, H⟩ (fun k hk => ?_)) ?_
  · rcases hk with hk | hk
    · exact ⟨cl_sep Ht k hk, fun q => hne (by obtain ⟨_, q2⟩ := hk; rw [← q2, q])⟩
    · exact ⟨cl_sep H k hk, fun q => by obtain ⟨q1, q2⟩ := hk; exact hna (fun z => q1 (by rw [z]; rfl)) (by rw [← q2, q])⟩
  refine loop_i (IdI e.s.ack l ((HX.cl tt (secells es)).and (HX.cl a (kcells l)))) (fun vs => l.length - (vs.i.headD 0).toNat) (fun ids w2 hp hf => ⟨_, ⟨hf.x, hf.sep⟩, 0, Nat.zero_le _, fun x k h => absurd h (Nat.not_lt_zero _), rfl, rfl⟩) ?_
  rintro vs hx' hcnt ⟨j, hj, h1, rfl, rfl⟩
  by_cases hlt : j < l.length
  · refine br_T (decide ((j : Int) < (l.length : Int))) (by kernel_rfl) (decide_eq_true (by omega)) ?_
    have hwk : IntKind.i64.wrap ((j : Int) + 1) = ((j + 1 : Nat) : Int) := by rw [wrap_i64 (by omega)]; omega
    obtain ⟨k, hk⟩ : ∃ k, l[j]? = some k := ⟨_, List.getElem?_eq_getElem hlt⟩
    have hkc : ∀ (j : Nat) (u : Value), k.cells[j]? = some u → k.cells[0 + j]? = some u := fun j u hj => by rw [Nat.zero_add]; exact hj
    obtain ⟨s1, q1⟩ := flat_part kp_len H hk (o := 0) k.cells hkc (by simp [KpD.cells])
    refine need_k (a.isSome = true ∧ (0 : Int) ≤ j ∧ (j : Int) < l.length) (by kernel_rfl) ⟨s1, by omega, by omega⟩ ?_
    refine node_ldk ⟨[k.seq, k.kind, k.re, k.im], [], [], [], []⟩ (fun _ => .pointer (some (((a.getD ⟨0, 0, none⟩).add (j * 4)).add 0))) k.cells (by intros; kernel_rfl) (by intros; kernel_rfl) (fun ids w2 hp hf => (flat_part kp_len hf.x.2 hk (o := 0) k.cells hkc (by simp [KpD.cells])).2 _ (fun q => q)) (by kernel_rfl) oneNil ?_
    refine node_PI ⟨[], [decide (k.seq ≤ e.s.ack)], [], [], []⟩ (fun ids => #[.agg k.cells.toArray, .pointer (some ⟨idAt ids 0, 0, none⟩)]) (.bool (decide (k.seq ≤ e.s.ack))) (by intros; kernel_rfl) (by intros; kernel_rfl) (by kernel_rfl) (by kernel_rfl) (by kernel_rfl) oneNil (fun ids w2 hp hf => ask1_any k (idAt ids 0) tt es i e w2 (hf.blkAt 0 rfl) hf.x.1 he (by rw [idAt0 hp]; exact hne)) ?_
    by_cases hc : k.seq ≤ e.s.ack
    · refine br_T (decide (k.seq ≤ e.s.ack)) (by kernel_rfl) (decide_eq_true hc) ?_
      have hfi : fstI e.s.ack l = j := tw_of hj h1 (fun k' h => by rw [hk] at h; cases h; exact decide_eq_false (by omega))
      rw [hfi, if_neg (by omega)]
      intro ids w2 hp hf
      have e0 := hf.blkAt 0 rfl
      rw [idAt0 hp] at e0
      exact ⟨by kernel_rfl, pureS_same hf e0 hb⟩
    · refine br_F (decide (k.seq ≤ e.s.ack)) (by kernel_rfl) (decide_eq_false hc) ?_
      refine again_V ⟨[((j + 1 : Nat) : Int)], [], [], [], []⟩ rfl (fun ids => Eq.trans (b := ⟨[IntKind.i64.wrap ((j : Int) + 1)], [], [], [], []⟩) (by kernel_rfl) (by rw [hwk])) _ (fun w2 ids hf => ⟨hf.x, hf.sep⟩) ⟨⟨j + 1, by omega, fun x k' hx hk' => ?_, rfl, rfl⟩, ?_⟩
      · rcases Nat.lt_or_ge x j with q | q
        · exact h1 x k' q hk'
        · have : x = j := by omega
          subst this; rw [hk] at hk'; cases hk'; exact decide_eq_true (by omega)
      · show l.length - (((j + 1 : Nat) : Int)).toNat < l.length - ((j : Int)).toNat
        omega
  · refine br_F (decide ((j : Int) < (l.length : Int))) (by kernel_rfl) (decide_eq_false (by omega)) ?_
    have hfi : fstI e.s.ack l = l.length := tw_of (Nat.le_refl _) (fun x k hx hk => h1 x k (by omega) hk) (fun k h => by rw [List.getElem?_eq_none (Nat.le_refl _)] at h; cases h)
    rw [if_pos hfi]
    intro ids w2 hp hf
    have e0 := hf.blkAt 0 rfl
    rw [idAt0 hp] at e0
    exact ⟨by kernel_rfl, pureS_same hf e0 hb⟩
def DelR (w : World) (a : Option Addr) (cap b : Nat) (pc : Value) (l : List KpD) (r : Ending) (w' : World) : Prop := r = .returned (.slice a l.length cap) ∧ (HX.rw 4 143 a l.length cap (kcells l)).X w' ∧ Blk w' b [pc] 149 ∧ Chg (fun x => x = b ∨ (cap ≠ 0 ∧ abk a = some x)) w w'
def DlI (ack : Int) (l : List KpD) (hx0 : HX) (a : Option Addr) (cap : Nat) (vs : Vals) (hx : HX) : Prop := ∃ (i j : Nat) (X : List KpD), i < j ∧ j ≤ l.length ∧ X.length = l.length ∧ X.take i = (l.take j).filter (live ack) ∧ X.drop j = l.drop j ∧
  vs = ⟨[(i : Int), (j : Int)], [], [], [], []⟩ ∧ hx = hx0.and (HX.rw 4 143 a l.length cap (kcells X))
theorem filter_all {α : Type} {q : α → Bool} {l : List α} (h : (l.takeWhile q).length = l.length) : l.filter q = l := by
  induction l with
  | nil => rfl
  | cons x r ih =>
    rw [List.takeWhile_cons] at h
    split at h
    · rename_i hq
      rw [List.filter_cons, if_pos hq, ih (by simpa using h)]
    · simp at h
theorem take_tw {α : Type} {q : α → Bool} (l : List α) : (l.take (l.takeWhile q).length).filter q = l.take (l.takeWhile q).length := by
  induction l with
  | nil => rfl
  | cons x r ih =>
    rw [List.takeWhile_cons]
    split
    · rename_i hq
      rw [List.length_cons, List.take_succ_cons, List.filter_cons, if_pos hq, ih]
    · rfl
set_option maxHeartbeats 1000000 in
theorem delk_any (a : Option Addr) (cap : Nat) (l : List KpD) (b : Nat) (tt : Option Addr) (es : List SE) (i : Nat) (e : SE) (w : World) (H : (HX.rw 4 143 a l.length cap (kcells l)).X w) (hl : l.length ≤ 1000000) (hb : Blk w b [pSe tt i] 149) (Ht : Cells w tt (secells es)) (he : es[i]? = some e) (hne : blk tt ≠ b) (hna : ∀ k, cap ≠ 0 → abk a = some k → k ≠ b ∧ ¬ (HX.cl tt (secells es)).F k) :
    Calls Try.prog 73 #[.slice a l.length cap, fAsk b] w (DelR w a cap b (pSe tt i) (l.filter (live e.s.ack))) := by
  refine calls_at (tab_ok _) Try.func73 rfl tDelK (ρ := ⟨[(i : Int)], [], [], [l.length, cap], [a, tt]⟩) (ids := [b]) (hx := (HX.cl tt (secells es)).and (HX.rw 4 143 a l.length cap (kcells l))) (M := fun x => x = b ∨ (cap ≠ 0 ∧ abk a = some x)) rfl (Facts.initx rfl oneNil hb (by kernel_rfl) (.inl rfl) ⟨Ht, H⟩ (fun k hk => ?_)) ?_
  · rcases hk with hk | hk
    · exact ⟨cl_sep Ht k hk, fun q => hne (by obtain ⟨_, q2⟩ := hk; rw [← q2, q])⟩
    · exact ⟨rw_blt H hk.1 hk.2, (hna k hk.1 hk.2).1⟩
  obtain ⟨ack, eack⟩ : ∃ x, x = e.s.ack := ⟨_, rfl⟩
  rw [← eack]
  have hlen := rw_le H
  have cellsne : ∀ {X : List KpD} {w2 : World}, X.length = l.length → (HX.rw 4 143 a l.length cap (kcells X)).X w2 → X ≠ [] → blk a ≠ b := fun {X w2} hX hx hne2 => by
    have hc : cap ≠ 0 := by
      have := (rw_le hx).1
      have : X.length ≠ 0 := fun q => hne2 (List.eq_nil_of_length_eq_zero q)
      omega
    obtain ⟨g, _, rfl, _⟩ := rw_open hx hc
    exact (hna g hc rfl).1
  have fin : ∀ {ρ : Env} {ids : List Nat} {w2 : World} {R : Ending → World → Prop} {v : SV} {l' : List KpD} {c : Cnt}, [b] <+: ids → Facts ⟨Try.prog, w, fun x => x = b ∨ (cap ≠ 0 ∧ abk a = some x), R⟩ ⟨[(149, [.adr 1 (.var 0) 3 0])], c⟩ ρ ids ((HX.cl tt (secells es)).and (HX.rw 4 143 a l'.length cap (kcells l'))) w2 → v.den ρ ids = .slice a l'.length cap → cellsDen ρ ids [.adr 1 (.var 0) 3 0] = [pSe tt i] → DelR w a cap b (pSe tt i) l' (.returned (v.den ρ ids)) w2 := fun hp hf hv hc => by
    have e0 := hf.blkAt 0 rfl
    rw [idAt0 hp, hc] at e0
    exact ⟨by rw [hv], hf.x.2, e0, hf.chg⟩
  refine node_PI ⟨[if fstI ack l = l.length then -1 else (fstI ack l : Int)], [], [], [], []⟩ (fun ids => #[.slice a l.length cap, fAsk (idAt ids 0)]) (.int .i64 (if fstI ack l = l.length then -1 else (fstI ack l : Int))) (by intros; kernel_rfl) (by intros; kernel_rfl) (by kernel_rfl) (by kernel_rfl) (by kernel_rfl) oneNil (fun ids w2 hp hf => by rw [eack]; exact idxk_any a cap l (idAt ids 0) tt es i e w2 (rw_cells hf.x.2) hl (hf.blkAt 0 rfl) hf.x.1 he (by rw [idAt0 hp]; exact hne) (by rw [idAt0 hp]; exact cellsne rfl hf.x.2)) ?_
  by_cases hf0 : fstI ack l = l.length
  · refine br_T ((if fstI ack l = l.length then (-1 : Int) else (fstI ack l : Int)) == -1) (by kernel_rfl) (by rw [if_pos hf0]; rfl) ?_
    rw [show l.filter (live ack) = l from filter_all hf0]
    intro ids w2 hp hf
    exact fin hp hf (by kernel_rfl) (by kernel_rfl)
  refine br_F ((if fstI ack l = l.length then (-1 : Int) else (fstI ack l : Int)) == -1) (by kernel_rfl) (by rw [if_neg hf0]; exact beq_eq_false_iff_ne.2 (by omega)) ?_
  obtain ⟨m, em⟩ : ∃ m, m = fstI ack l := ⟨_, rfl⟩
  have hm : m < l.length := by
    have h2 : fstI ack l ≤ l.length := (List.takeWhile_sublist (live ack) (l := l)).length_le
    omega
  have hcap : cap ≠ 0 := by omega
  have hk0 : ∀ k, l[m]? = some k → live ack k = false := fun k hk => by
    have h1 := List.getElem?_eq_some_iff.1 hk
    have : ∀ (l : List KpD), (l.takeWhile (live ack)).length < l.length → ∀ k, l[(l.takeWhile (live ack)).length]? = some k → live ack k = false := fun l => by
      induction l with
      | nil => intro h; simp at h
      | cons x r ih =>
        intro h k hk
        rw [List.takeWhile_cons] at h hk
        split at h
        · rename_i hq
          rw [if_pos hq, List.length_cons, List.getElem?_cons_succ] at hk
          exact ih (by simpa using h) k hk
        · rename_i hq
          rw [if_neg hq] at hk
          simp at hk
          subst hk
          simpa using hq
    exact this l (by rw [show (l.takeWhile (live ack)).length = m from em.symm]; exact hm) k (by rw [show (l.takeWhile (live ack)).length = m from em.symm]; exact hk)
  have hst : l.take m = (l.take (m + 1)).filter (live ack) := by
    obtain ⟨k, hk⟩ : ∃ k, l[m]? = some k := ⟨_, List.getElem?_eq_getElem hm⟩
    rw [List.take_add_one, hk, List.filter_append]
    have h1 : [k].filter (live ack) = [] := by rw [List.filter_cons, if_neg (by rw [hk0 k hk]; decide)]; rfl
    show _ = _ ++ [k].filter (live ack)
    rw [h1, List.append_nil, em]
    exact (take_tw l).symm
  have hdis : ∀ k, cap ≠ 0 → abk a = some k → ¬ (HX.cl tt (secells es)).F k := fun k h1 h2 => (hna k h1 h2).2
  refine loop_i (DlI ack l (HX.cl tt (secells es)) a cap) (fun vs => l.length - (vs.i.getD 1 0).toNat) (fun ids w2 hp hf => ⟨_, ⟨hf.x, hf.sep⟩, m, m + 1, l, by omega, by omega, rfl, hst, rfl, ?_, rfl⟩) ?_
  · refine Eq.trans (b := ⟨[if fstI ack l = l.length then (-1 : Int) else (fstI ack l : Int), IntKind.i64.wrap ((if fstI ack l = l.length then (-1 : Int) else (fstI ack l : Int)) + 1)], [], [], [], []⟩) (by kernel_rfl) ?_
    rw [if_neg hf0, ← em, wrap_i64 (by omega)]; rfl
  rintro vs hx' hcnt ⟨i2, j, X, hij, hj, hX, ht, hd, rfl, rfl⟩
  refine holds_env (ρ' := ⟨[(i : Int), (if fstI ack l = l.length then -1 else (fstI ack l : Int)), (i2 : Int), (j : Int)], [], [], [l.length, cap], [a, tt]⟩) (by kernel_rfl) ?_
  by_cases hlt : j < l.length
  · refine br_T (decide ((j : Int) < (l.length : Int))) (by kernel_rfl) (decide_eq_true (by omega)) ?_
    have hwj : IntKind.i64.wrap ((j : Int) + 1) = ((j + 1 : Nat) : Int) := by rw [wrap_i64 (by omega)]; omega
    have hwi : IntKind.i64.wrap ((i2 : Int) + 1) = ((i2 + 1 : Nat) : Int) := by rw [wrap_i64 (by omega)]; omega
    obtain ⟨k, hk⟩ : ∃ k, l[j]? = some k := ⟨_, List.getElem?_eq_getElem hlt⟩
    have hXk : X[j]? = some k := by
      have h1 : (X.drop j)[0]? = (l.drop j)[0]? := by rw [hd]
      rw [List.getElem?_drop, List.getElem?_drop, Nat.add_zero] at h1
      rw [h1]; exact hk
    have hkc : ∀ (j : Nat) (u : Value), k.cells[j]? = some u → k.cells[0 + j]? = some u := fun j u hj => by rw [Nat.zero_add]; exact hj
    have hsm : a.isSome = true := by
      obtain ⟨g, _, e1, _⟩ := rw_open H hcap
      rw [e1]; rfl
    refine need_k (a.isSome = true ∧ (0 : Int) ≤ j ∧ (j : Int) < l.length) (by kernel_rfl) ⟨hsm, by omega, by omega⟩ ?_
    refine node_ldk ⟨[k.seq, k.kind, k.re, k.im], [], [], [], []⟩ (fun _ => .pointer (some (((a.getD ⟨0, 0, none⟩).add (j * 4)).add 0))) k.cells (by intros; kernel_rfl) (by intros; kernel_rfl) (fun ids w2 hp hf => (flat_part kp_len (rw_cells hf.x.2) hXk (o := 0) k.cells hkc (by simp [KpD.cells])).2 _ (fun q => q)) (by kernel_rfl) oneNil ?_
    refine node_PI ⟨[], [decide (k.seq ≤ ack)], [], [], []⟩ (fun ids => #[.agg k.cells.toArray, .pointer (some ⟨idAt ids 0, 0, none⟩)]) (.bool (decide (k.seq ≤ ack))) (by intros; kernel_rfl) (by intros; kernel_rfl) (by kernel_rfl) (by kernel_rfl) (by kernel_rfl) oneNil (fun ids w2 hp hf => by rw [eack]; exact ask1_any k (idAt ids 0) tt es i e w2 (hf.blkAt 0 rfl) hf.x.1 he (by rw [idAt0 hp]; exact hne)) ?_
    by_cases hc : k.seq ≤ ack
    · refine br_F (!(decide (k.seq ≤ ack))) (by kernel_rfl) (by rw [decide_eq_true hc]; rfl) ?_
      refine again_V ⟨[(i2 : Int), ((j + 1 : Nat) : Int)], [], [], [], []⟩ rfl (fun ids => Eq.trans (b := ⟨[(i2 : Int), IntKind.i64.wrap ((j : Int) + 1)], [], [], [], []⟩) (by kernel_rfl) (by rw [hwj])) _ (fun w2 ids hf => ⟨hf.x, hf.sep⟩) ⟨⟨i2, j + 1, X, by omega, by omega, hX, ?_, ?_, rfl, rfl⟩, ?_⟩
      · have h1 : [k].filter (live ack) = [] := by rw [List.filter_cons, if_neg (by unfold live; rw [decide_eq_false (by omega)]; decide)]; rfl
        rw [List.take_add_one, hk, List.filter_append, ht]
        show _ = _ ++ [k].filter (live ack)
        rw [h1, List.append_nil]
      · rw [← List.drop_drop, hd, List.drop_drop]
      · show l.length - (((j + 1 : Nat) : Int)).toNat < l.length - ((j : Int)).toNat
        omega
    · refine br_T (!(decide (k.seq ≤ ack))) (by kernel_rfl) (by rw [decide_eq_false hc]; rfl) ?_
      refine need_k (a.isSome = true ∧ (0 : Int) ≤ i2 ∧ (i2 : Int) < l.length) (by kernel_rfl) ⟨hsm, by omega, by omega⟩ ?_
      obtain ⟨x, hx⟩ : ∃ x, X[i2]? = some x := ⟨_, List.getElem?_eq_getElem (by omega)⟩
      refine node_stores (sz := 4) a l.length cap (kcells X) k.cells i2 0 (.agg k.cells.toArray) (by kernel_rfl) (by intros; kernel_rfl) (by intros; kernel_rfl) rfl (fun v hv => by simp [KpD.cells] at hv; rcases hv with rfl | rfl | rfl | rfl <;> rfl) (by rw [kp_len]; omega) (by rw [kp_len]; decide) hdis (fun q h1 h2 => .inr (.inr ⟨h1, h2⟩)) (by kernel_rfl) (by kernel_rfl) (by kernel_rfl) ?_
      rw [show spl (kcells X) (i2 * 4 + 0) k.cells = kcells (X.set i2 k) from flat_spl kp_len hx (by rw [kp_len]; decide) (by
        unfold spl
        rw [List.take_zero, List.nil_append, List.drop_of_length_le (by rw [kp_len, kp_len]; decide), List.append_nil])]
      refine again_V ⟨[((i2 + 1 : Nat) : Int), ((j + 1 : Nat) : Int)], [], [], [], []⟩ rfl (fun ids => Eq.trans (b := ⟨[IntKind.i64.wrap ((i2 : Int) + 1), IntKind.i64.wrap ((j : Int) + 1)], [], [], [], []⟩) (by kernel_rfl) (by rw [hwj, hwi])) _ (fun w2 ids hf => ⟨hf.x, hf.sep⟩) ⟨⟨i2 + 1, j + 1, X.set i2 k, by omega, by omega, by rw [List.length_set]; exact hX, ?_, ?_, rfl, rfl⟩, ?_⟩
      · have h1 : [k].filter (live ack) = [k] := by rw [List.filter_cons, if_pos (by unfold live; exact decide_eq_true (by omega))]; rfl
        rw [List.take_add_one, List.getElem?_set_self (by omega), List.take_set_of_le (Nat.le_refl _), ht, List.take_add_one, hk, List.filter_append]
        show _ = _ ++ [k].filter (live ack)
        rw [h1]; rfl
      · rw [List.drop_set_of_lt (by omega), ← List.drop_drop, hd, List.drop_drop]
      · show l.length - (((j + 1 : Nat) : Int)).toNat < l.length - ((j : Int)).toNat
        omega
  · refine br_F (decide ((j : Int) < (l.length : Int))) (by kernel_rfl) (decide_eq_false (by omega)) ?_
    obtain rfl : j = l.length := by omega
    rw [List.take_length] at ht
    have hlf : (l.filter (live ack)).length = i2 := by rw [← ht, List.length_take]; omega
    refine node_from (l := i2) (n := l.length) (cap := cap) (sz := 4) a Try.underlying139 (by kernel_rfl) info_kp (by intros; kernel_rfl) (by intros; kernel_rfl) (by omega) (by intros; kernel_rfl) (by kernel_rfl) (by kernel_rfl) (by kernel_rfl) ?_
    refine node_clear_rw (z := .agg #[.int .i64 0, .int .i64 0, .int .i64 0, .int .i64 0]) (sz := 4) (e := 143) rfl Try.underlying139 info_kp rfl (by decide) (fun v hv => by simp [Value.cells] at hv; subst hv; rfl) a l.length cap i2 (kcells X) (by omega) (by intros; kernel_rfl) hdis (fun q h1 h2 => .inr (.inr ⟨h1, h2⟩)) (by intros; kernel_rfl) (by kernel_rfl) (by kernel_rfl) (by kernel_rfl) ?_
    refine node_upto (u := i2) (n := l.length) (cap := cap) (sz := 4) a Try.underlying139 (by kernel_rfl) info_kp (by intros; kernel_rfl) (by intros; kernel_rfl) (fun ids w2 hf => (rw_le hf.x.2).1) (by intros; kernel_rfl) (by kernel_rfl) (by kernel_rfl) (by kernel_rfl) ?_
    have ha0 : sliA a 0 cap 4 = a := by
      unfold sliA
      rw [if_neg hcap]
      obtain ⟨g, _, e1, _⟩ := rw_open H hcap
      rw [e1]
      show some ((⟨g, 0, none⟩ : Addr).add (0 * 4)) = _
      rw [Go.WideShapes.add_plain]
    refine holds_eq (show _ = (HX.cl tt (secells es)).and (HX.rw 4 143 a (l.filter (live ack)).length cap (kcells (l.filter (live ack)))) from by rw [hlf, ← ht]; unfold kcells; rw [flat_take kp_len]) ?_
    intro ids w2 hp hf
    refine fin hp hf ?_ (by kernel_rfl)
    rw [hlf]
    refine Eq.trans (b := .slice (sliA a 0 cap 4) i2 cap) (by kernel_rfl) (by rw [ha0])
end Go.Proofs.Ytbedoemdjlollaa

namespace Go.Proofs.Ytbedoemdjlollaa
open Go.Eng
abbrev tTAskJb0 : List LV := [(tVi 0), (tVi 1), (tVi 2), (tVi 3), (tVi 4), (tVi 5), (tVi 6), (tVi 7)]
abbrev tTAskJm0 : Mem := ⟨[(43, tTAskJb0), (62, [(tLi 0), (tLi 0), (tLi 0)]), (141, [(tVi 0), (tLi 0), .nilsl])], ⟨9, 1, 0, 6, 3⟩⟩
abbrev tTAskJm1 : Mem := ⟨[(43, tTAskJb0), (62, [(tLi 0), (tLi 0), (tLi 0)]), (149, [(.adr 2 (.var 8) 3 0)])], ⟨10, 1, 0, 10, 5⟩⟩
abbrev tTAskJm2 : Mem := ⟨[(43, tTAskJb0), (62, [(tLi 0), (tLi 0), (tLi 0)]), (149, [(.adr 2 (.var 8) 3 0)])], ⟨11, 1, 0, 10, 5⟩⟩
abbrev tTAskJm3 : Mem := ⟨[(43, tTAskJb0), (62, [(tLi 0), (tLi 0), (tLi 0)]), (149, [(.adr 2 (.var 8) 3 0)])], ⟨11, 1, 0, 12, 6⟩⟩
abbrev tTAskJm4 : Mem := ⟨[(43, tTAskJb0), (62, [(tLi 0), (tLi 0), (tLi 0)]), (149, [(.adr 2 (.var 8) 3 0)])], ⟨12, 2, 0, 12, 6⟩⟩
abbrev tTAskJm5 : Mem := ⟨[(43, tTAskJb0), (62, [(tLi 0), (tLi 0), (tLi 0)]), (149, [(.adr 2 (.var 8) 3 0)])], ⟨12, 2, 0, 14, 7⟩⟩
abbrev tTAskJm6 : Mem := ⟨[(43, tTAskJb0), (62, [(tLi 0), (tLi 0), (tLi 0)]), (149, [(.adr 2 (.var 8) 3 0)])], ⟨10, 1, 0, 6, 3⟩⟩
abbrev tTAskJm7 : Mem := ⟨[(43, tTAskJb0), (62, [(tLi 0), (tLi 0), (tLi 0)]), (149, [(.adr 2 (.var 8) 3 0)])], ⟨10, 1, 0, 8, 4⟩⟩
abbrev tTAskJm8 : Mem := ⟨[(43, tTAskJb0), (62, [(tLi 0), (tLi 0), (tLi 0)])], ⟨8, 0, 0, 4, 2⟩⟩
abbrev tTAskJm9 : Mem := ⟨[(43, tTAskJb0), (62, [(tLi 0), (tLi 0), (tLi 0)])], ⟨9, 1, 0, 4, 2⟩⟩
set_option maxRecDepth 100000 in
theorem tTAskJ : (runF ⟨tt, fns, {cur := [1, 2, 3, 4, 5, 6, 7, 8], joins := [(7, ⟨[(0, .sl)], []⟩)]}⟩ (Try.f55.body.getD .skip) Try.f55.results.toList (entry Try.f55.ntmps [.lf (.sl 0 (.var 0) (.var 1)), .agg [.int .i64 (.var 0), .int .i64 (.var 1), .int .i64 (.var 2), .int .i64 (.var 3), .int .i64 (.var 4), .int .i64 (.var 5), .int .i64 (.var 6), .int .i64 (.var 7)]] [] ⟨8, 0, 0, 2, 1⟩)) =
  (.call 54 [(.lf (tSl 0 0 1))] ⟨[(43, tTAskJb0), (62, [(tLi 0), (tLi 0), (tLi 0)])], ⟨8, 0, 0, 2, 1⟩⟩ (.lf (tSl 1 2 3)) tTAskJm8 (.call 70 [(.lf (tSl 1 2 3)), (.lf (tVi 0)), (.lf (.fnv 71 []))] tTAskJm8 (.tup [(.false, [(tVi 8)]), (.false, [(.bool (.var 0))])]) tTAskJm9 (.join 7 tTAskJm9 ⟨[(43, tTAskJb0), (62, [(tLi 0), (tLi 0), (tLi 0)])], ⟨9, 1, 0, 6, 3⟩⟩ (.br (.not (.var 0)) (.br (.cmp .geq (.nat 2) (.lit 16)) (.done (.tup [(.false, [(tSl 1 2 3)]), (.true, [(tLi 5), (tLi 0), (tLi 0)]), (.false, [(.bool (.lit .true))])]) ⟨[(43, tTAskJb0), (62, [(tLi 5), (tLi 0), (tLi 0)])], ⟨9, 1, 0, 4, 2⟩⟩) (.call 72 [(.lf (tSl 1 2 3)), (.lf (tVi 8)), (.lf (.nsl 2 0 1 1))] ⟨[(43, tTAskJb0), (62, [(tLi 0), (tLi 0), (tLi 0)]), (141, [(tVi 0), (tLi 0), .nilsl])], ⟨9, 1, 0, 4, 2⟩⟩ (.lf (tSl 2 4 5)) tTAskJm0 (.again 7 ⟨[], [], [], [(.var 4), (.var 5)], [(.var 2)]⟩ tTAskJm0))) (.again 7 ⟨[], [], [], [(.var 2), (.var 3)], [(.var 1)]⟩ tTAskJm9)) (.need (.inb 2 (.var 8) (.nat 4)) (.ld .true (.adr 2 (.var 8) 3 1) [(tVi 9)] ⟨[(43, tTAskJb0), (62, [(tLi 0), (tLi 0), (tLi 0)]), (149, [(.adr 2 (.var 8) 3 0)])], ⟨9, 1, 0, 6, 3⟩⟩ tTAskJm6 (.gen (.store 3 (.tmp 46) (.tmp 44)) 0 [(46, (.lf (.adr 2 (.var 8) 3 1))), (44, (.lf (.int .i64 (.mx (.var 9) (.var 2)))))] tTAskJm6 .none tTAskJm6 (.ld .true (.adr 2 (.var 8) 3 2) [(tSl 3 6 7)] tTAskJm6 tTAskJm7 (.call 73 [(.lf (tSl 3 6 7)), (.lf (.fnv 74 [(2, 0)]))] tTAskJm7 (.lf (tSl 4 8 9)) tTAskJm1 (.gen (.store 139 (.tmp 55) (.tmp 53)) 0 [(55, (.lf (.adr 2 (.var 8) 3 2))), (53, (.lf (tSl 4 8 9)))] tTAskJm1 .none tTAskJm1 (.ld .true (.adr 2 (.var 8) 3 1) [(tVi 10)] tTAskJm1 tTAskJm2 (.br (.cmp .leq (.var 1) (.var 10)) (.done (.tup [(.false, [(tSl 2 4 5)]), (.true, [(tLi 4), (tLi 0), (tLi 0)]), (.false, [(.bool (.lit .true))])]) ⟨[(43, tTAskJb0), (62, [(tLi 4), (tLi 0), (tLi 0)]), (149, [(.adr 2 (.var 8) 3 0)])], ⟨11, 1, 0, 10, 5⟩⟩) (.ld .true (.adr 2 (.var 8) 3 2) [(tSl 5 10 11)] tTAskJm2 tTAskJm3 (.call 75 [(.lf (tSl 5 10 11)), (.lf (tVi 1)), (.lf (.fnv 76 []))] tTAskJm3 (.tup [(.false, [(tVi 11)]), (.false, [(.bool (.var 1))])]) tTAskJm4 (.br (.var 1) (.ld .true (.adr 2 (.var 8) 3 2) [(tSl 6 12 13)] tTAskJm4 tTAskJm5 (.need (.inb 6 (.var 11) (.nat 12)) (.ld .true (.adr 6 (.var 11) 4 1) [(tVi 12), (tVi 13), (tVi 14)] tTAskJm5 ⟨[(43, tTAskJb0), (62, [(tLi 0), (tLi 0), (tLi 0)]), (149, [(.adr 2 (.var 8) 3 0)])], ⟨15, 2, 0, 14, 7⟩⟩ (.done (.tup [(.false, [(tSl 2 4 5)]), (.true, [(tVi 12), (tVi 13), (tVi 14)]), (.false, [(.bool (.lit .true))])]) ⟨[(43, tTAskJb0), (62, [(tVi 12), (tVi 13), (tVi 14)]), (149, [(.adr 2 (.var 8) 3 0)])], ⟨15, 2, 0, 14, 7⟩⟩)))) (.ld .true (.adr 2 (.var 8) 3 2) [(tSl 6 12 13)] tTAskJm4 tTAskJm5 (.br (.cmp .geq (.nat 12) (.lit 8)) (.done (.tup [(.false, [(tSl 2 4 5)]), (.true, [(tLi 6), (tLi 0), (tLi 0)]), (.false, [(.bool (.lit .true))])]) ⟨[(43, tTAskJb0), (62, [(tLi 6), (tLi 0), (tLi 0)]), (149, [(.adr 2 (.var 8) 3 0)])], ⟨12, 2, 0, 14, 7⟩⟩) (.done (.tup [(.false, [(tSl 2 4 5)]), (.true, [(tLi 0), (tLi 0), (tLi 0)]), (.false, [(.bool (.lit .false))])]) tTAskJm5))))))))))))))))) := by kernel_rfl
end Go.Proofs.Ytbedoemdjlollaa

namespace Go.Proofs.Ytbedoemdjlollaa
open Go.Eng
end Go.Proofs.Ytbedoemdjlollaa

namespace Go.Eng
open Go.ChangeShapes Go.WideShapes Go.ChangeAt Go.RowKit Go.Syn
set_option linter.unusedVariables false
set_option linter.unusedSimpArgs false
section
variable {C : Cfg} {ρ : Env} {pre : List Nat} {hx : HX} {L : Stack} {m m' : Mem} {ty : Nat} {ps : List (Nat × SV)} {r : SV} {T : Tree}
theorem node_lit {t e len sz : Nat} {ps0 : Array (Nat × Operand)} (us : List Value) (parts : Array (Nat × Value)) (hp0 : ∀ ids, (ps0.map fun x => (x.1, envOf ρ ids ps x.2)) = parts) (hrun : ∀ w, (Instr.buildSlice t len parts).run C.P w = .ok (.slice (some ⟨w.heap.size, 0, none⟩) len len) (w.alloc (.cells us.toArray e))) (hl : us.length = len * sz) (hm : len ≤ maxLen)
    (hr : ∀ a' ids, r.den (ρ.add ⟨[], [], [], [len, len], [a']⟩) ids = .slice a' len len) (hhp : m'.hp = m.hp) (hfit : hpFits m.c m.hp.length m.hp = true) (hc : ∀ a', (ρ.add ⟨[], [], [], [len, len], [a']⟩).cnt = m'.c)
    (h : ∀ a', (∀ k, len ≠ 0 → abk a' = some k → C.W.heap.size ≤ k ∧ ¬ hx.F k) → T.holds C (ρ.add ⟨[], [], [], [len, len], [a']⟩) pre (hx.and (HX.rw sz e a' len len us)) L) : (Tree.gen (.buildSlice t len ps0) ty ps m (some r) m' T).holds C ρ pre hx L := by
  intro ids w hp hf
  unfold GenRun
  have hg : w.grownBy (w.alloc (.cells us.toArray e)) none := ⟨rfl, rfl, rfl, by show w.heap.size ≤ (w.heap.push _).size; simp, fun k hk _ => heap_alloc_old w _ hk⟩
  have hnew : (w.alloc (.cells us.toArray e)).heap[w.heap.size]? = some (.cells us.toArray e (0, 0)) := by show (w.heap.push _)[w.heap.size]? = _; simp
  have hrow : (HX.rw sz e (some ⟨w.heap.size, 0, none⟩) len len us).X (w.alloc (.cells us.toArray e)) := by
    by_cases h0 : len = 0
    · subst h0
      exact .inl ⟨rfl, rfl, List.eq_nil_of_length_eq_zero (by rw [hl]; simp)⟩
    · have := rw_shut (sz := sz) (n := len) (cap := len) h0 hnew (Nat.le_refl _) hm hl
      rwa [← hl, List.take_length] at this
  have hsz : (w.alloc (.cells us.toArray e)).heap.size = w.heap.size + 1 := by show (w.heap.push _).size = _; simp
  simp only [execOp, hp0, Sem.run_bind, Sem.run_pure, Result.andThen_ok, hrun]
  refine ⟨⟨[], [], [], [len, len], [some ⟨w.heap.size, 0, none⟩]⟩, ids, hx.and (HX.rw sz e (some ⟨w.heap.size, 0, none⟩) len len us), ?_, List.prefix_refl _, hf.turn (hx' := hx.and (HX.rw sz e (some ⟨w.heap.size, 0, none⟩) len len us)) hg (fun b e => by cases e) ⟨hx.loc w _ hf.x fun k hk => hg.block k (hf.sep k hk).1 (fun q => by cases q), hrow⟩ (fun k hk => ?_) hhp hfit (hc _) oneNil, holds_pre T hp (h _ (fun k _ hk => ?_))⟩
  · simp only [Option.map_some, hr]
  · rcases hk with hk | hk
    · exact .inl hk
    · have : w.heap.size = k := by have := hk.2; injection this
      exact .inr ⟨by omega, by omega⟩
  · have e1 : w.heap.size = k := by injection hk
    exact ⟨by have := hf.chg.size; omega, fun q => by have := (hf.sep k q).1; omega⟩
end
end Go.Eng
