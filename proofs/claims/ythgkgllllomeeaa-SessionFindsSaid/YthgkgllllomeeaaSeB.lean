/- Sessions: tables in memory; Clone; the closure of Ask. -/
import Derived.Test.YthgkgllllomeeaaSeA
namespace Go.Proofs.Ythgkgllllomeeaa
open Go.ChangeShapes Go.WideShapes Go.ChangeAt Go.RowKit Go.Syn Go.Eng
set_option linter.unusedVariables false
set_option linter.unusedSimpArgs false
set_option maxRecDepth 100000
/-- The kept replies of sessions, each a row. -/
def kRow (e : SE) : HX := HX.rw 4 48 e.a e.s.kept.length e.c (kcells e.s.kept)
def ksR (es : List SE) : HX := ⟨fun k => ∃ e ∈ es, (kRow e).F k, fun w => ∀ e ∈ es, (kRow e).X w, fun w w' h he e hm => (kRow e).loc w w' (h e hm) fun k hk => he k ⟨e, hm, hk⟩⟩
theorem ksR_snoc (es : List SE) (e : SE) : ksR (es ++ [e]) = (ksR es).and (kRow e) := HX.ext (by
    funext k
    refine propext ⟨?_, ?_⟩
    · rintro ⟨x, hx, hk⟩
      rcases List.mem_append.1 hx with hx | hx
      · exact .inl ⟨x, hx, hk⟩
      · rw [List.mem_singleton.1 hx] at hk; exact .inr hk
    · rintro (⟨x, hx, hk⟩ | hk)
      · exact ⟨x, List.mem_append_left _ hx, hk⟩
      · exact ⟨e, List.mem_append_right _ (List.mem_singleton.2 rfl), hk⟩) (by
    funext w
    refine propext ⟨fun h => ⟨fun x hx => h x (List.mem_append_left _ hx), h e (List.mem_append_right _ (List.mem_singleton.2 rfl))⟩, ?_⟩
    rintro ⟨h1, h2⟩ x hx
    rcases List.mem_append.1 hx with hx | hx
    · exact h1 x hx
    · rw [List.mem_singleton.1 hx]; exact h2)
/-- One session's row apart from the others'. -/
theorem ksR_split {es : List SE} {i : Nat} {e : SE} (h : es[i]? = some e) : ksR es = (ksR (es.eraseIdx i)).and (kRow e) := HX.ext (by
    funext k
    refine propext ⟨?_, ?_⟩
    · rintro ⟨x, hx, hk⟩
      obtain ⟨j, hj⟩ := List.mem_iff_getElem?.1 hx
      by_cases hij : j = i
      · subst hij; rw [h] at hj; cases hj; exact .inr hk
      · refine .inl ⟨x, List.mem_iff_getElem?.2 ?_, hk⟩
        rcases Nat.lt_or_ge j i with q | q
        · exact ⟨j, by rw [List.getElem?_eraseIdx, if_pos q]; exact hj⟩
        · exact ⟨j - 1, by rw [List.getElem?_eraseIdx, if_neg (by omega), show j - 1 + 1 = j by omega]; exact hj⟩
    · rintro (⟨x, hx, hk⟩ | hk)
      · exact ⟨x, List.mem_of_mem_eraseIdx hx, hk⟩
      · exact ⟨e, List.mem_of_getElem? h, hk⟩) (by
    funext w
    refine propext ⟨fun hX => ⟨fun x hx => hX x (List.mem_of_mem_eraseIdx hx), hX e (List.mem_of_getElem? h)⟩, ?_⟩
    rintro ⟨h1, h2⟩ x hx
    obtain ⟨j, hj⟩ := List.mem_iff_getElem?.1 hx
    by_cases hij : j = i
    · subst hij; rw [h] at hj; cases hj; exact h2
    · refine h1 x (List.mem_iff_getElem?.2 ?_)
      rcases Nat.lt_or_ge j i with q | q
      · exact ⟨j, by rw [List.getElem?_eraseIdx, if_pos q]; exact hj⟩
      · exact ⟨j - 1, by rw [List.getElem?_eraseIdx, if_neg (by omega), show j - 1 + 1 = j by omega]; exact hj⟩)
def tRow (a : Option Addr) (c : Nat) (es : List SE) : HX := HX.rw 3 42 a es.length c (secells es)
def tabR (a : Option Addr) (c : Nat) (es : List SE) : HX := (ksR es).and (tRow a c es)
/-- All rows are apart. -/
structure Dj (a : Option Addr) (c : Nat) (es : List SE) : Prop where
  two : ∀ (i j : Nat) (e e' : SE), i ≠ j → es[i]? = some e → es[j]? = some e' → ∀ k, (kRow e).F k → ¬ (kRow e').F k
  tab : ∀ e ∈ es, ∀ k, (kRow e).F k → ¬ (tRow a c es).F k
structure TbAt (w : World) (a : Option Addr) (es : List SE) : Prop where
  row : Cells w a (secells es)
  each : ∀ e ∈ es, Cells w e.a (kcells e.s.kept)
theorem tabR_at {a : Option Addr} {c : Nat} {es : List SE} {w : World} (h : (tabR a c es).X w) : TbAt w a es := ⟨rw_cells h.2, fun e he => rw_cells (h.1 e he)⟩
theorem TbAt.keep {w w' : World} {a : Option Addr} {es : List SE} (h : TbAt w a es) (hb : ∀ k, k < w.heap.size → w'.heap[k]? = w.heap[k]?) : TbAt w' a es := ⟨cl_stay h.row hb, fun e he => cl_stay (h.each e he) hb⟩
theorem tabR_lt {a : Option Addr} {c : Nat} {es : List SE} {w : World} (h : (tabR a c es).X w) : ∀ k, (tabR a c es).F k → k < w.heap.size := by
  rintro k (⟨e, he, hk⟩ | hk)
  · exact rw_blt (h.1 e he) hk.1 hk.2
  · exact rw_blt h.2 hk.1 hk.2
theorem sec_ne {es : List SE} (h : es ≠ []) : secells es ≠ [] := fun q => by
  have := congrArg List.length q
  rw [secells_len] at this
  cases es with
  | nil => exact h rfl
  | cons x r => simp at this
theorem kc_ne {l : List KpD} (h : l ≠ []) : kcells l ≠ [] := fun q => by
  have := congrArg List.length q
  rw [kcells_len] at this
  cases l with
  | nil => exact h rfl
  | cons x r => simp at this
/-- What is not empty has an address. -/
structure Sm (a : Option Addr) (es : List SE) : Prop where
  tab : es ≠ [] → a.isSome = true
  each : ∀ e ∈ es, e.s.kept ≠ [] → e.a.isSome = true
/-- A table in new memory. -/
def TbNew (w : World) (V : Value → Value) (t : List SsD) (r : Ending) (w' : World) : Prop := ∃ a c es, es.map SE.s = t ∧ r = .returned (V (.slice a t.length c)) ∧ Dj a c es ∧ (tabR a c es).X w' ∧ (∀ k, (tabR a c es).F k → w.heap.size ≤ k) ∧ Below w.heap.size w w'
section
variable {C : Cfg} {ρ : Env} {pre : List Nat} {hx : HX} {L : Stack} {m m' : Mem} {args : List SV} {r : SV} {t : Tree}
theorem node_tb {f : Nat} {V : Value → Value} {tb : List SsD} (AS : List Nat → Array Value) (vs : Option Addr → Nat → Vals) (hargs : ∀ ids, (args.map (SV.den ρ ids)).toArray = AS ids) (hcall : ∀ ids w, pre <+: ids → Facts C m ρ ids hx w → Calls C.P f (AS ids) w (TbNew w V tb))
    (hr : ∀ a' c' ids, r.den (ρ.add (vs a' c')) ids = V (.slice a' tb.length c')) (hhp : m'.hp = m.hp) (hfit : hpFits m.c m.hp.length m.hp = true) (hc : ∀ a' c', (ρ.add (vs a' c')).cnt = m'.c) (h1 : ∀ a' c' v, v ∈ (vs a' c').v → v.oneCell' = true)
    (h : ∀ a' c' es, es.map SE.s = tb → Dj a' c' es → Sm a' es → (∀ k, (tabR a' c' es).F k → C.W.heap.size ≤ k ∧ ¬ hx.F k) → t.holds C (ρ.add (vs a' c')) pre (hx.and (tabR a' c' es)) L) : (Tree.call f args m r m' t).holds C ρ pre hx L := by
  refine node_out AS (fun u hy => ∃ a' c' es, es.map SE.s = tb ∧ Dj a' c' es ∧ Sm a' es ∧ u = vs a' c' ∧ hy = tabR a' c' es) hargs (fun ids w hp hf => ?_) hhp hfit ?_ ?_
  · refine (hcall ids w hp hf).mono ?_
    rintro e w' ⟨a', c', es, h1, rfl, h2, hX, hge, hb⟩
    exact ⟨_, _, ⟨a', c', es, h1, h2, ⟨fun q => rw_sm hX.2 (sec_ne q), fun e he q => rw_sm (hX.1 e he) (kc_ne q)⟩, rfl, rfl⟩, by rw [hr], hX, fun k hk => ⟨hge k hk, tabR_lt hX k hk⟩, hb⟩
  · rintro u hy ⟨a', c', es, _, _, _, rfl, rfl⟩
    exact ⟨hc _ _, h1 _ _⟩
  · rintro u hy ⟨a', c', es, q1, q2, q3, rfl, rfl⟩ hfr
    exact h a' c' es q1 q2 q3 hfr
end
def CnI (W : World) (a1 : Option Addr) (c1 : Nat) (es : List SE) (vs : Vals) (hx : HX) : Prop := ∃ (k : Nat) (ds : List SE), k ≤ es.length ∧ ds.length = k ∧ ds.map SE.s = (es.take k).map SE.s ∧ (∀ e ∈ ds, ∀ j, (kRow e).F j → W.heap.size ≤ j ∧ ¬ (c1 ≠ 0 ∧ abk a1 = some j)) ∧
  (∀ (i j : Nat) (e e' : SE), i ≠ j → ds[i]? = some e → ds[j]? = some e' → ∀ k, (kRow e).F k → ¬ (kRow e').F k) ∧
  vs = ⟨[(k : Int)], [], [], [], []⟩ ∧ hx = (HX.nil.and (ksR ds)).and (HX.rw 3 42 a1 es.length c1 (secells (ds ++ es.drop k)))
set_option maxHeartbeats 1000000 in
theorem tclone_any (a : Option Addr) (cap : Nat) (es : List SE) (w : World) (H : TbAt w a es) (hl : es.length ≤ 1000000) (hk : ∀ e ∈ es, e.s.kept.length ≤ 1000000) : Calls Try.prog 13 #[.slice a es.length cap] w (TbNew w id (es.map SE.s)) := by
  refine calls_at (tab_ok _) Try.func13 rfl tTClone (ρ := ⟨[], [], [], [es.length, cap], [a]⟩) (ids := []) (hx := HX.nil) rfl (Facts.initP rfl oneNil) ?_
  have keep : ∀ {m : Mem} {ρ : Env} {ids : List Nat} {hx : HX} {w2 : World} {R : Ending → World → Prop}, Facts ⟨Try.prog, w, fun _ => False, R⟩ m ρ ids hx w2 → TbAt w2 a es := fun hf => H.keep (fun k hk => hf.chg.block k hk (fun q => q))
  refine node_rwn (V := id) (sz := 3) (e := 42) (n := es.length) (xs := secells es) (fun _ => #[.slice a es.length cap]) (fun a' c' => ⟨[], [], [], [es.length, c'], [a']⟩) (by intros; kernel_rfl) (fun ids w2 hp hf => clt_any a cap es w2 (keep hf).row hl) (by intros; kernel_rfl) (by kernel_rfl) (by kernel_rfl) (by intros; kernel_rfl) (fun _ _ => oneNil) ?_
  intro a1 c1 hs1 hn1
  refine loop_i (CnI w a1 c1 es) (fun vs => es.length - (vs.i.headD 0).toNat) (fun ids w2 hp hf => ⟨(HX.nil.and (ksR [])).and (HX.rw 3 42 a1 es.length c1 (secells es)), ⟨⟨⟨trivial, fun e he => by cases he⟩, hf.x.2⟩, fun j hj => hj.elim (fun q => q.elim (fun q => q.elim) (fun ⟨e, he, _⟩ => by cases he)) (fun q => hf.sep j (.inr q))⟩, 0, [], Nat.zero_le _, rfl, rfl, (fun e he => by cases he), (fun i j e e' _ h => by simp at h), rfl, rfl⟩) ?_
  rintro vs hx' hcnt ⟨k, ds, hk1, hdl, hdm, hdf, hdj, rfl, rfl⟩
  refine holds_env (ρ' := ⟨[(k : Int)], [], [], [es.length, cap, es.length, c1], [a, a1]⟩) (by kernel_rfl) ?_
  by_cases hlt : k < es.length
  · refine br_T (decide ((k : Int) < (es.length : Int))) (by kernel_rfl) (decide_eq_true (by omega)) ?_
    have hwk : IntKind.i64.wrap ((k : Int) + 1) = ((k + 1 : Nat) : Int) := by rw [wrap_i64 (by omega)]; omega
    obtain ⟨e, he⟩ : ∃ e, es[k]? = some e := ⟨_, List.getElem?_eq_getElem hlt⟩
    have hem := List.mem_of_getElem? he
    have hel : (ds ++ es.drop k)[k]? = some e := by rw [List.getElem?_append_right (by omega), hdl, Nat.sub_self, List.getElem?_drop, Nat.add_zero]; exact he
    have hsm := hs1 (fun q => by
      have := congrArg List.length q
      rw [secells_len] at this
      simp at this; omega)
    refine need_k (a1.isSome = true ∧ (0 : Int) ≤ k ∧ (k : Int) < es.length) (by kernel_rfl) ⟨hsm, by omega, by omega⟩ ?_
    refine node_ldk ⟨[], [], [], [e.s.kept.length, e.c], [e.a]⟩ (fun _ => .pointer (some (((a1.getD ⟨0, 0, none⟩).add (k * 3)).add 2))) [.slice e.a e.s.kept.length e.c] (by intros; kernel_rfl) (by intros; kernel_rfl) (fun ids w2 hp hf => (flat_part se_len (rw_cells hf.x.2) hel (o := 2) [.slice e.a e.s.kept.length e.c] (fun j u hj => by cases j with | zero => exact hj | succ j => simp at hj) (by simp)).2 _ (fun q => q)) (by kernel_rfl) oneNil ?_
    refine node_rwn (V := id) (sz := 4) (e := 48) (n := e.s.kept.length) (xs := kcells e.s.kept) (fun _ => #[.slice e.a e.s.kept.length e.c]) (fun a' c' => ⟨[], [], [], [e.s.kept.length, c'], [a']⟩) (by intros; kernel_rfl) (fun ids w2 hp hf => clk_any e.a e.c e.s.kept w2 ((keep hf).each e hem) (hk e hem)) (by intros; kernel_rfl) (by kernel_rfl) (by kernel_rfl) (by intros; kernel_rfl) (fun _ _ => oneNil) ?_
    intro a2 c2 _ hn2
    obtain ⟨e', ee'⟩ : ∃ e' : SE, e' = ⟨e.s, a2, c2⟩ := ⟨_, rfl⟩
    refine need_k (a1.isSome = true ∧ (0 : Int) ≤ k ∧ (k : Int) < es.length) (by kernel_rfl) ⟨hsm, by omega, by omega⟩ ?_
    refine holds_eq (show _ = ((HX.nil.and (ksR ds)).and (kRow e')).and (HX.rw 3 42 a1 es.length c1 (secells (ds ++ es.drop k))) from by rw [HX.and_right_comm, ee']; rfl) ?_
    refine node_stores (sz := 3) a1 es.length c1 (secells (ds ++ es.drop k)) [.slice a2 e.s.kept.length c2] k 2 (.slice a2 e.s.kept.length c2) (by kernel_rfl) (by intros; kernel_rfl) (by intros; kernel_rfl) rfl (by simp [Value.oneCell']) (by simp; omega) (by simp) (fun q h1 h2 hF => ?_) (fun q h1 h2 => .inl (hn1 q h1 h2).1) (by kernel_rfl) (by kernel_rfl) (by kernel_rfl) ?_
    · rcases hF with (hF | ⟨x, hx, hF⟩) | hF
      · exact hF
      · exact (hdf x hx q hF).2 ⟨h1, h2⟩
      · rw [ee'] at hF; exact (hn2 q hF.1 hF.2).2 (.inr ⟨h1, h2⟩)
    have hset : spl (secells (ds ++ es.drop k)) (k * 3 + 2) [.slice a2 e.s.kept.length c2] = secells ((ds ++ [e']) ++ es.drop (k + 1)) := by
      have := flat_spl se_len (e' := e') hel (o := 2) (us := [.slice a2 e.s.kept.length c2]) (by simp) (by rw [ee']; rfl)
      unfold secells
      rw [this]
      congr 1
      have hdr : es.drop k = e :: es.drop (k + 1) := by
        obtain ⟨h1, h2⟩ := List.getElem?_eq_some_iff.1 he
        rw [List.drop_eq_getElem_cons h1, h2]
      rw [hdr, List.set_append_right _ _ (by omega), hdl, Nat.sub_self, List.set_cons_zero, List.append_assoc]; rfl
    rw [hset]
    refine again_V ⟨[((k + 1 : Nat) : Int)], [], [], [], []⟩ rfl (fun ids => Eq.trans (b := ⟨[IntKind.i64.wrap ((k : Int) + 1)], [], [], [], []⟩) (by kernel_rfl) (by rw [hwk])) _ (fun w2 ids hf => ⟨hf.x, hf.sep⟩) ⟨⟨k + 1, ds ++ [e'], by omega, by rw [List.length_append, hdl]; rfl, ?_, ?_, ?_, rfl, by rw [ksR_snoc, ← HX.and_assoc]⟩, ?_⟩
    · rw [List.map_append, hdm, List.take_add_one, he, List.map_append, ee']; rfl
    · intro x hx j hj
      rcases List.mem_append.1 hx with hx | hx
      · exact hdf x hx j hj
      · rw [List.mem_singleton.1 hx, ee'] at hj
        exact ⟨(hn2 j hj.1 hj.2).1, fun q => (hn2 j hj.1 hj.2).2 (.inr q)⟩
    · have new : ∀ x ∈ ds, ∀ q, (kRow x).F q → ¬ (kRow e').F q := fun x hx q h1 h2 => by
        rw [ee'] at h2
        exact (hn2 q h2.1 h2.2).2 (.inl (.inr ⟨x, hx, h1⟩))
      intro i j x y hij hx hy q h1 h2
      rw [List.getElem?_append] at hx hy
      split at hx
      · rename_i hi
        split at hy
        · exact hdj i j x y hij hx hy q h1 h2
        · have : y = e' := by
            have := List.mem_of_getElem? hy
            exact List.mem_singleton.1 this
          exact new x (List.mem_of_getElem? hx) q h1 (this ▸ h2)
      · have hx' : x = e' := List.mem_singleton.1 (List.mem_of_getElem? hx)
        split at hy
        · exact new y (List.mem_of_getElem? hy) q h2 (hx' ▸ h1)
        · rename_i h3 h4
          have a1 : i - ds.length < 1 := by
            rcases Nat.lt_or_ge (i - ds.length) 1 with z | z
            · exact z
            · rw [List.getElem?_eq_none (by simpa using z)] at hx; cases hx
          have a2 : j - ds.length < 1 := by
            rcases Nat.lt_or_ge (j - ds.length) 1 with z | z
            · exact z
            · rw [List.getElem?_eq_none (by simpa using z)] at hy; cases hy
          omega
    · show es.length - (((k + 1 : Nat) : Int)).toNat < es.length - ((k : Int)).toNat
      omega
  · refine br_F (decide ((k : Int) < (es.length : Int))) (by kernel_rfl) (decide_eq_false (by omega)) ?_
    obtain rfl : k = es.length := by omega
    rw [List.take_length] at hdm
    rw [List.drop_length, List.append_nil]
    intro ids w2 hp hf
    refine ⟨a1, c1, ds, hdm, ?_, ⟨hdj, fun e he j hj q => (hdf e he j hj).2 q⟩, ⟨hf.x.1.2, ?_⟩, ?_, hf.chg.below⟩
    · rw [List.length_map]; kernel_rfl
    · unfold tRow; rw [hdl]; exact hf.x.2
    · rintro j (⟨e, he, hj⟩ | hj)
      · exact (hdf e he j hj).1
      · exact (hn1 j hj.1 hj.2).1
end Go.Proofs.Ythgkgllllomeeaa
