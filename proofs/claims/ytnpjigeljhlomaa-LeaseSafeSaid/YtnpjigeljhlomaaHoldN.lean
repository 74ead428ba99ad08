/- The holder's calls, as nodes; the head. -/
import Derived.Test.YtnpjigeljhlomaaHold
namespace Go.Proofs.Ytnpjigeljhlomaa
open Go.ChangeShapes Go.WideShapes Go.ChangeAt Go.RowKit Go.Syn Go.Eng
set_option linter.unusedVariables false
set_option linter.unusedSimpArgs false
section
variable {W : World} {M : Nat → Prop} {R : Ending → World → Prop} {ρ : Env} {pre : List Nat} {rest : HX} {L : Stack} {m m' : Mem} {args : List SV} {r : SV} {t : Tree}
variable {a : Option Addr} {cap : Nat} {ms : List Int} {hold : Int} {bm : Nat} {mm : List (Int × Int)} {cs : List LV}
theorem hold_at {ids : List Nat} {w : World} (n : Nat) (hf : Facts ⟨Try.prog, W, M, R⟩ m ρ ids (rest.and (holdHX a ms bm mm)) w) (hn : m.hp[n]? = some (69, cs)) (hcs : ∀ ids, cellsDen ρ ids cs = [.slice a ms.length cap, .int .i64 hold, .map (some bm)]) (hab : blk a ≠ bm) : HoldAt w (idAt ids n) a cap ms hold bm mm := by
  have hlt : n < m.hp.length := by
    rcases Nat.lt_or_ge n m.hp.length with q | q
    · exact q
    · rw [List.getElem?_eq_none q] at hn; cases hn
  have hmem := idAt_mem (ids := ids) (n := n) (hf.len ▸ hlt)
  have hb := hf.blk n _ _ hn
  rw [hcs] at hb
  exact ⟨hb, hf.x.2.1, hf.x.2.2, fun e => (hf.sep bm (.inr (.inr rfl))).2 (e ▸ hmem), fun hne => ⟨fun e => (hf.sep (blk a) (.inr (.inl ⟨hne, rfl⟩))).2 (e ▸ hmem), hab⟩⟩
theorem node_hvalid (n : Nat) (now : Int) (hargs : ∀ ids, (args.map (SV.den ρ ids)).toArray = #[.pointer (some ⟨idAt ids n, 0, none⟩), .int .i64 now]) (hn : m.hp[n]? = some (69, cs)) (hcs : ∀ ids, cellsDen ρ ids cs = [.slice a ms.length cap, .int .i64 hold, .map (some bm)]) (hab : blk a ≠ bm)
    (hh : 0 ≤ hold ∧ hold ≤ 9223372036854775807) (hnow : I64 now) (hm : ∀ p ∈ mm, I64 p.1 ∧ I64 p.2) (hl : mm.length ≤ 1000) (hr : ∀ ids, r.den (ρ.add ⟨[], [enoughB ms (standL mm hold now)], [], [], []⟩) ids = .bool (enoughB ms (standL mm hold now))) (hhp : m'.hp = m.hp) (hfit : hpFits m.c m.hp.length m.hp = true) (hc : (ρ.add ⟨[], [enoughB ms (standL mm hold now)], [], [], []⟩).cnt = m'.c)
    (h : t.holds ⟨Try.prog, W, M, R⟩ (ρ.add ⟨[], [enoughB ms (standL mm hold now)], [], [], []⟩) pre (rest.and (holdHX a ms bm mm)) L) : (Tree.call 19 args m r m' t).holds ⟨Try.prog, W, M, R⟩ ρ pre (rest.and (holdHX a ms bm mm)) L := by
  refine node_pure _ hhp hfit hc oneNil (fun ids w hp hf => ?_) h
  rw [hargs, hr]
  exact hvalid_any _ a cap ms hold bm mm now w (hold_at n hf hn hcs hab) hh hnow hm hl
theorem node_hgranted (n : Nat) (node asked : Int) (hargs : ∀ ids, (args.map (SV.den ρ ids)).toArray = #[.pointer (some ⟨idAt ids n, 0, none⟩), .int .i64 node, .int .i64 asked]) (hn : m.hp[n]? = some (69, cs)) (hcs : ∀ ids, cellsDen ρ ids cs = [.slice a ms.length cap, .int .i64 hold, .map (some bm)]) (hab : blk a ≠ bm)
    (hrest : ¬ rest.F bm) (hW : W.heap.size ≤ bm ∨ M bm) (hr : ∀ ids, r.den (ρ.add ⟨[], [hasB ms node], [], [], []⟩) ids = .bool (hasB ms node)) (hhp : m'.hp = m.hp) (hfit : hpFits m.c m.hp.length m.hp = true) (hc : (ρ.add ⟨[], [hasB ms node], [], [], []⟩).cnt = m'.c)
    (h : t.holds ⟨Try.prog, W, M, R⟩ (ρ.add ⟨[], [hasB ms node], [], [], []⟩) pre (rest.and (holdHX a ms bm (hgrantV ms mm node asked))) L) : (Tree.call 20 args m r m' t).holds ⟨Try.prog, W, M, R⟩ ρ pre (rest.and (holdHX a ms bm mm)) L := by
  intro ids w hp hf
  rw [hargs]
  refine (hgranted_any _ a cap ms hold bm mm node asked w (hold_at n hf hn hcs hab)).mono ?_
  rintro e w' ⟨rfl, hA, hg⟩
  refine ⟨_, ids, _, by rw [← hr ids], List.prefix_refl _, hf.turn (hx' := rest.and (holdHX a ms bm (hgrantV ms mm node asked))) hg (fun b e => by cases e; exact ⟨.inr (.inr rfl), hW⟩) ⟨rest.loc w w' hf.x.1 fun k hk => hg.block k (hf.sep k (.inl hk)).1 fun e => hrest (by cases e; exact hk), hA.ints, hA.imap⟩ (fun k hk => .inl hk) hhp hfit hc oneNil, holds_pre t hp h⟩
variable {hx : HX} {cs' : List LV}
theorem node_hnew (sa : List Nat → Option Addr) (cap : Nat) (len rho : Int) (hints : ∀ ids w, pre <+: ids → Facts ⟨Try.prog, W, M, R⟩ m ρ ids hx w → Ints w (sa ids) ms) (hs : setOkB ms = true) (hargs : ∀ ids, (args.map (SV.den ρ ids)).toArray = #[.slice (sa ids) ms.length cap, .int .i64 len, .int .i64 rho]) (hhp : m'.hp = m.hp ++ [(69, cs')])
    (hcs' : ∀ a' cap' bm ids, cellsDen (ρ.add ⟨[holdV len rho], [], [.map (some bm)], [ms.length, cap'], [a']⟩) ids cs' = [.slice a' ms.length cap', .int .i64 (holdV len rho), .map (some bm)]) (hr : r = .lf (.ptr m.hp.length 0)) (hfit : hpFits m.c m.hp.length m.hp = true) (hc : ∀ a' cap' bm, (ρ.add ⟨[holdV len rho], [], [.map (some bm)], [ms.length, cap'], [a']⟩).cnt = m'.c)
    (h : ∀ a' cap' bm, W.heap.size ≤ bm → ¬ hx.F bm → blk a' ≠ bm → t.holds ⟨Try.prog, W, M, R⟩ (ρ.add ⟨[holdV len rho], [], [.map (some bm)], [ms.length, cap'], [a']⟩) pre (hx.and (holdHX a' ms bm [])) L) : (Tree.call 17 args m r m' t).holds ⟨Try.prog, W, M, R⟩ ρ pre hx L := by
  intro ids w hp hf
  rw [hargs]
  have hne : ms ≠ [] := fun e => by rw [e] at hs; exact absurd (setOkB_iff.1 hs).1 (by decide)
  refine (hnew_yes (sa ids) cap ms len rho w (hints ids w hp hf) hs).mono ?_
  rintro e w' ⟨b, a', cap', bm, rfl, hA, hbel, hb0, hbm, hba⟩
  have hpre : ids <+: ids ++ [b] := List.prefix_append _ _
  have hn2 := hA.s2 hne
  refine ⟨⟨[holdV len rho], [], [.map (some bm)], [ms.length, cap'], [a']⟩, ids ++ [b], hx.and (holdHX a' ms bm []), ?_, hpre, ?_, holds_pre t (hp.trans hpre) (h a' cap' bm (Nat.le_trans hf.chg.size hbm) (fun q => by have := (hf.sep _ q).1; omega) hn2.2)⟩
  · subst hr
    simp only [SV.den, LV.den, idAt_last _ _ hf.len]
  refine ⟨by rw [hhp]; simp [hf.len], ?_, fun k t2 cs2 hk => ?_, ?_, hf.chg.trans (chg_of_below hbel), ⟨hx.loc w w' hf.x (fun b hb2 => hbel.block b (hf.sep b hb2).1), hA.ints, hA.imap⟩, ?_, ⟨hc _ _ _, fun v hv => ?_⟩⟩
  · refine List.nodup_append.2 ⟨hf.nod, by simp, ?_⟩
    intro x hx1 y hy
    simp only [List.mem_singleton] at hy
    subst hy
    have := hf.id_lt hx1
    omega
  · rw [hhp, List.getElem?_append] at hk
    split at hk
    · rename_i hlt
      rw [idAt_pre hpre (hf.len ▸ hlt), hbel.block _ (hf.id_lt (idAt_mem (hf.len ▸ hlt))), hf.blk k t2 cs2 hk, cellsDen_add hf.cnt.cnt hpre hf.len (List.all_eq_true.1 hfit _ (List.mem_of_getElem? hk))]
    · rename_i hge
      have hk0 : k - m.hp.length = 0 := by
        rcases Nat.eq_zero_or_pos (k - m.hp.length) with q | q
        · exact q
        · rw [List.getElem?_eq_none (by simp; omega)] at hk; cases hk
      rw [hk0] at hk
      simp only [List.getElem?_cons_zero, Option.some.injEq, Prod.mk.injEq] at hk
      obtain ⟨rfl, rfl⟩ := hk
      have hkl : k = ids.length := by have := hf.len; omega
      have h2 : idAt (ids ++ [b]) k = b := by simp [idAt, hkl]
      rw [h2, hcs']; exact hA.blk
  · intro id hid
    rcases List.mem_append.1 hid with h | h
    · exact hf.own id h
    · simp only [List.mem_singleton] at h; subst h; exact .inl (Nat.le_trans hf.chg.size hb0)
  · intro b2 hb2
    have old : ∀ x, w.heap.size ≤ x → x ∉ ids := fun x hx1 hm => by have := hf.id_lt hm; omega
    rcases hb2 with hb2 | ⟨_, rfl⟩ | hb2
    · obtain ⟨h3, h4⟩ := hf.sep b2 hb2
      refine ⟨Nat.lt_of_lt_of_le h3 hbel.size, ?_⟩
      simp only [List.mem_append, List.mem_singleton, not_or]
      exact ⟨h4, by omega⟩
    · refine ⟨(hA.ints.at_ (List.length_pos_iff.2 hne)).2.1, ?_⟩
      simp only [List.mem_append, List.mem_singleton, not_or]
      exact ⟨old _ hba, hn2.1⟩
    · have : b2 = bm := hb2
      subst this
      refine ⟨hA.imap.lt, ?_⟩
      simp only [List.mem_append, List.mem_singleton, not_or]
      exact ⟨old _ hbm, hA.s1⟩
  · simp only [Env.add, List.mem_append, List.mem_singleton] at hv
    rcases hv with hv | rfl
    · exact hf.cnt.one v hv
    · rfl
end
theorem i64s {x : Int} (h : -1000 ≤ x ∧ x ≤ 1000) : I64 x := ⟨by omega, by omega⟩
def g0 : GrD := newGr 10 0 false
def g1 : GrD := ⟨10, 5, 1, 2, true⟩
def g2 : GrD := ⟨10, 5, 1, 2, false⟩
theorem g0ok : g0.ok := ⟨by decide, by decide, i64s (by decide)⟩
theorem g1ok : g1.ok := ⟨by decide, by decide, i64s (by decide)⟩
set_option maxHeartbeats 1000000 in
set_option maxRecDepth 100000 in
theorem lhead_any (w : World) : Calls Try.prog 7 #[] w (PureAt w (.bool true)) := by
  refine calls_at (tab_ok _) Try.func7 rfl tLHead (ρ := ⟨[], [], [], [], []⟩) (ids := []) rfl (Facts.initP rfl oneNil) ?_
  refine node_newB 61 ⟨g0.vals, [g0.stands], [], [], []⟩ (fun w => newGr_any 10 0 false w) (fun _ => rfl) rfl (fun _ => rfl) rfl rfl rfl oneNil ?_
  refine node_hnew (ms := [1, 2, 3]) (fun ids => some ⟨idAt ids 1, 0, none⟩) 3 10 0 (fun ids w hp hf => Ints.of_block [1, 2, 3] (by decide) (fun x hx => i64s (by simp at hx; omega)) (hf.blk 1 _ _ rfl)) (by decide) (fun _ => rfl) rfl (fun _ _ _ _ => rfl) rfl rfl (fun _ _ _ => rfl) ?_
  intro a' cap' bm hb hnb hab
  refine node_at1 0 61 ⟨g1.vals, [true, true], [], [], []⟩ (us := g0.cells) (us' := g1.cells) (V := .bool true) (fun w b h => grant_any b g0 1 2 5 w g0ok (i64s (by decide)) h) (fun _ => rfl) rfl (fun _ => rfl) rfl (fun _ => rfl) (fun _ => rfl) rfl rfl oneNil ?_
  refine br_f rfl ?_
  refine node_at1 0 61 ⟨g1.vals, [true, true], [], [], []⟩ (us := g1.cells) (us' := g1.cells) (V := .bool true) (fun w b h => bars_any b g1 2 3 14 w g1ok (i64s (by decide)) h) (fun _ => rfl) rfl (fun _ => rfl) rfl (fun _ => rfl) (fun _ => rfl) rfl rfl oneNil ?_
  refine br_f rfl ?_
  refine node_at1 0 61 ⟨g1.vals, [true, false], [], [], []⟩ (us := g1.cells) (us' := g1.cells) (V := .bool false) (fun w b h => bars_any b g1 1 2 14 w g1ok (i64s (by decide)) h) (fun _ => rfl) rfl (fun _ => rfl) rfl (fun _ => rfl) (fun _ => rfl) rfl rfl oneNil ?_
  refine br_f rfl ?_
  refine node_at1 0 61 ⟨g2.vals, [false, false], [], [], []⟩ (us := g1.cells) (us' := g2.cells) (V := .bool false) (fun w b h => bars_any b g1 2 3 15 w g1ok (i64s (by decide)) h) (fun _ => rfl) rfl (fun _ => rfl) rfl (fun _ => rfl) (fun _ => rfl) rfl rfl oneNil ?_
  refine br_f rfl ?_
  refine node_hgranted (mm := []) (hold := holdV 10 0) 2 1 4 (fun _ => rfl) rfl (fun _ => rfl) hab (fun e => e) (.inl hb) (fun _ => rfl) rfl rfl rfl ?_
  refine br_t (show hasB [1, 2, 3] 1 = true by decide) ?_
  refine node_hgranted (hold := holdV 10 0) 2 3 6 (fun _ => rfl) rfl (fun _ => rfl) hab (fun e => e) (.inl hb) (fun _ => rfl) rfl rfl rfl ?_
  refine br_t (show hasB [1, 2, 3] 3 = true by decide) ?_
  have em : hgrantV [1, 2, 3] (hgrantV [1, 2, 3] [] 1 4) 3 6 = [(1, 4), (3, 6)] := by decide
  rw [em]
  have hI : ∀ p ∈ [((1 : Int), (4 : Int)), (3, 6)], I64 p.1 ∧ I64 p.2 := fun p hp => by
    simp at hp; rcases hp with rfl | rfl <;> exact ⟨i64s (by decide), i64s (by decide)⟩
  refine node_hvalid (hold := holdV 10 0) 2 13 (fun _ => rfl) rfl (fun _ => rfl) hab (by decide) (i64s (by decide)) hI (by decide) (fun _ => rfl) rfl rfl rfl ?_
  refine br_t (show enoughB [1, 2, 3] (standL [(1, 4), (3, 6)] (holdV 10 0) 13) = true by decide) ?_
  refine node_hvalid (hold := holdV 10 0) 2 14 (fun _ => rfl) rfl (fun _ => rfl) hab (by decide) (i64s (by decide)) hI (by decide) (fun _ => rfl) rfl rfl rfl (pure_done ?_)
  intro ids
  show Value.bool (!(enoughB [1, 2, 3] (standL [(1, 4), (3, 6)] (holdV 10 0) 14))) = .bool true
  congr 1
end Go.Proofs.Ytnpjigeljhlomaa
