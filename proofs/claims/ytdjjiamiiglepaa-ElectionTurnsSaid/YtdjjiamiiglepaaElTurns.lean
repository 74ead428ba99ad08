/- The walk of the law ElectionTurns. -/
import Derived.Test.YtdjjiamiiglepaaElHead
import Derived.Test.YtdjjiamiiglepaaMask
import Derived.Test.YtdjjiamiiglepaaBalRef
namespace Go.Proofs.Ytdjjiamiiglepaa
open Go.ChangeShapes Go.WideShapes Go.ChangeAt Go.RowKit Go.Syn
set_option linter.unusedVariables false
set_option linter.unusedSimpArgs false

/-- Timers: their blocks, their members' addresses and capacities. -/
abbrev Tk := Nat × Option Addr × Nat
def ptr (t : Tk) : Value := .pointer (some ⟨t.1, 0, none⟩)
/-- Each is a timer in its state. -/
def TimersAt (w : World) (xs : List Int) (l : List Tk) (st : Nat → Tm) : Prop := ∀ (i : Nat) (t : Tk), l[i]? = some t → Tmr w t.1 t.2.1 t.2.2 xs (st i)
/-- They lie apart, behind all that was, and apart from block g. -/
def Apart (B g : Nat) (l : List Tk) : Prop := ∀ (i : Nat) (t : Tk), l[i]? = some t → B ≤ t.1 ∧ (g ≠ t.1 ∧ g ≠ blk t.2.1) ∧ blk t.2.1 ≠ t.1 ∧ ∀ (j : Nat) (u : Tk), l[j]? = some u → j ≠ i → u.1 ≠ t.1 ∧ blk u.2.1 ≠ t.1

theorem TimersAt.ext {w w' : World} {xs : List Int} {l : List Tk} {st : Nat → Tm} (h : TimersAt w xs l st) (e : Below w.heap.size w w') : TimersAt w' xs l st := fun i t hi => (h i t hi).ext e
theorem TimersAt.tick {w w' : World} {B g : Nat} {xs : List Int} {l : List Tk} {st : Nat → Tm} {k : Nat} {t : Tk} {s : Tm} (h : TimersAt w xs l st) (ha : Apart B g l) (hk : l[k]? = some t) (hs : Tmr w' t.1 t.2.1 t.2.2 xs s)
    (hg : w.grownBy w' (some t.1)) : TimersAt w' xs l (fun i => if i = k then s else st i) := by
  intro i u hi
  dsimp only
  by_cases e : i = k
  · subst e; rw [if_pos rfl]; rw [hk] at hi; cases hi; exact hs
  · rw [if_neg e]
    obtain ⟨a1, a2⟩ := (ha k t hk).2.2.2 i u hi e
    exact (h i u hi).grown hg a1 a2
theorem TimersAt.congr {w : World} {xs : List Int} {l : List Tk} {st st' : Nat → Tm} (h : TimersAt w xs l st) (e : ∀ i, i < l.length → st i = st' i) : TimersAt w xs l st' := fun i t hi => by
  have : i < l.length := by
    rcases Nat.lt_or_ge i l.length with q | q
    · exact q
    · rw [List.getElem?_eq_none q] at hi; cases hi
  rw [← e i this]; exact h i t hi
theorem getElem?_snoc {l : List Tk} {t u : Tk} {i : Nat} (h : (l ++ [t])[i]? = some u) : l[i]? = some u ∨ (i = l.length ∧ u = t) := by
  rcases Nat.lt_trichotomy i l.length with q | q | q
  · rw [List.getElem?_append_left q] at h; exact .inl h
  · subst q; simp at h; exact .inr ⟨rfl, h.symm⟩
  · rw [List.getElem?_eq_none (by simp; omega)] at h; cases h
theorem TimersAt.push {w : World} {xs : List Int} {l : List Tk} {st : Nat → Tm} {t : Tk} (h : TimersAt w xs l st) (ht : Tmr w t.1 t.2.1 t.2.2 xs (st l.length)) : TimersAt w xs (l ++ [t]) st := fun i u hi => by
  rcases getElem?_snoc hi with q | ⟨rfl, rfl⟩
  · exact h i u q
  · exact ht
theorem TimersAt.grown {w w' : World} {B g : Nat} {xs : List Int} {l : List Tk} {st : Nat → Tm} (h : TimersAt w xs l st) (ha : Apart B g l) (hg : w.grownBy w' (some g)) : TimersAt w' xs l st := fun i t hi =>
  (h i t hi).grown hg (Ne.symm (ha i t hi).2.1.1) (Ne.symm (ha i t hi).2.1.2)
theorem Apart.push {w : World} {B g : Nat} {xs : List Int} {l : List Tk} {st : Nat → Tm} {t : Tk} (h : Apart B g l) (hT : TimersAt w xs l st) (h0 : 0 < xs.length) (hb : w.heap.size ≤ blk t.2.1) (hc : blk t.2.1 < t.1) (hB : B ≤ w.heap.size)
    (hg : g < w.heap.size) : Apart B g (l ++ [t]) := by
  intro i u hi
  rcases getElem?_snoc hi with q | ⟨rfl, rfl⟩
  · obtain ⟨a1, a2, a3, a4⟩ := h i u q
    refine ⟨a1, a2, a3, fun j v hj hne => ?_⟩
    rcases getElem?_snoc hj with r | ⟨rfl, rfl⟩
    · exact a4 j v r hne
    · have := (hT i u q).row.lt; omega
  · refine ⟨by omega, ⟨by omega, by omega⟩, by omega, fun j v hj hne => ?_⟩
    rcases getElem?_snoc hj with r | ⟨rfl, rfl⟩
    · have r1 := (hT j v r).row.lt
      have r2 := ((hT j v r).mem.at_ h0).2.1
      omega
    · exact absurd rfl hne
theorem Apart.moved {w : World} {B g g' : Nat} {xs : List Int} {l : List Tk} {st : Nat → Tm} (h : Apart B g l) (hT : TimersAt w xs l st) (h0 : 0 < xs.length) (hg : g' = g ∨ w.heap.size ≤ g') : Apart B g' l := by
  rcases hg with rfl | hg
  · exact h
  · intro i u hi
    obtain ⟨a1, a2, a3, a4⟩ := h i u hi
    have r1 := (hT i u hi).row.lt
    have r2 := ((hT i u hi).mem.at_ h0).2.1
    exact ⟨a1, ⟨by omega, by omega⟩, a3, a4⟩
theorem cells_grown {w w' : World} {a : Option Addr} {cs : List Value} {r : Nat} (h : Cells w a cs) (hg : w.grownBy w' (some r)) (hr : blk a ≠ r) : Cells w' a cs := fun h0 => by
  obtain ⟨ha, hb, hc⟩ := h h0
  refine ⟨ha, Nat.lt_of_lt_of_le hb hg.size, fun i u hi => ?_⟩
  rw [World.cell?_of_block (w := w) (hg.block _ hb (by simpa using hr))]; exact hc i u hi
theorem ptr_cell {w : World} {g : Nat} {l : List Tk} {j : Nat} {t : Tk} (h : Cells w (some ⟨g, 0, none⟩) (l.map ptr)) (ht : l[j]? = some t) : w.cell? ⟨g, j, none⟩ = some (.pointer (some ⟨t.1, 0, none⟩)) ∧ g < w.heap.size := by
  have h0 : 0 < (l.map ptr).length := by
    rcases Nat.eq_zero_or_pos l.length with q | q
    · rw [List.getElem?_eq_none (by omega)] at ht; cases ht
    · simpa using q
  obtain ⟨_, hb, hc⟩ := h h0
  have := hc j (ptr t) (by simp [ht])
  simp only [blk_some, ofs_some, Nat.zero_add] at this hb
  exact ⟨this, hb⟩
/-- The leader of round u + 1 stands at place u % n. -/
theorem leader_place {xs : List Int} (S : SetOk xs) {u : Nat} {j : Nat} (hj : j < xs.length) : (leaderV xs ((u : Int) + 1) = xs.getD j 0) ↔ u % xs.length = j := by
  have l0 := S.1
  have hm : u % xs.length < xs.length := Nat.mod_lt _ (by omega)
  rw [leaderV_at (by omega) (by omega), show ((u : Int) + 1 - 1) % (xs.length : Int) = ((u % xs.length : Nat) : Int) by rw [show (u : Int) + 1 - 1 = u by omega]; norm_cast]
  rw [Int.toNat_natCast]
  constructor
  · intro e; exact S.inj hm hj e
  · rintro rfl; rfl
theorem grown_none {w w' : World} (e : Below w.heap.size w w') : w.grownBy w' none := ⟨e.os, e.tape, e.output, e.size, fun k hk _ => e.block k hk⟩
theorem Apart.lt {w : World} {B g : Nat} {xs : List Int} {l : List Tk} {st : Nat → Tm} (hT : TimersAt w xs l st) : ∀ (i : Nat) (u : Tk), l[i]? = some u → u.1 < w.heap.size := fun i u h => (hT i u h).row.lt

/-- The timers' state, all alike but for whose they are. -/
def alike (xs : List Int) (B M wt since u : Int) (i : Nat) : Tm := ⟨xs.getD i 0, B, M, wt, since, u⟩
theorem newTm_alike (v B M : Int) (h1 : 1 ≤ B) (h2 : B ≤ 1048576) (h3 : B ≤ M) (h4 : M ≤ 1048576) : newTm v B M 0 = ⟨v, B, M, B, 0, 0⟩ := by
  have e : max 1 (min B 1048576) = B := by omega
  have e2 : max B (min M 1048576) = M := by omega
  unfold newTm; dsimp only; rw [e, e2]
theorem tick_fires (xs : List Int) {v B M wt since u now : Int} (h0 : since ≤ now) (h : ¬ now - since < wt) (hu : u < 1099511627776) : tmTick xs ⟨v, B, M, wt, since, u⟩ now = (⟨v, B, M, min (2 * wt) M, now, u + 1⟩, decide (leaderV xs (u + 1) = v)) := by
  have e : tickSince ⟨v, B, M, wt, since, u⟩ now = since := by unfold tickSince; rw [if_neg (by dsimp only; omega)]
  unfold tmTick
  rw [e, if_neg (by dsimp only; omega), if_neg (by dsimp only; omega)]
theorem tick_waits (xs : List Int) {v B M wt since u now : Int} (h0 : since ≤ now) (h : now - since < wt) : tmTick xs ⟨v, B, M, wt, since, u⟩ now = (⟨v, B, M, wt, since, u⟩, false) := by
  have e : tickSince ⟨v, B, M, wt, since, u⟩ now = since := by unfold tickSince; rw [if_neg (by dsimp only; omega)]
  unfold tmTick
  by_cases hr : 1099511627776 ≤ u
  · rw [if_pos hr]
  · rw [if_neg hr, e, if_pos h]
theorem info_ptr : (Try.prog.info? 25).map (fun i => (i.zero, i.size, i.bytes)) = some (some (.pointer none), 1, 8) := by kernel_rfl

set_option maxHeartbeats 4000000 in
set_option maxRecDepth 100000 in
theorem turns_walk (a0 : Option Addr) (cap0 : Nat) (xs : List Int) (base most steps : Int) (w : World)
   (I0 : Ints w a0 xs) (s0 : xs.length * 8 ≤ 140737488351232) (ib : I64 base) (im : I64 most) (is : I64 steps) :
    Calls Try.prog 3 #[.slice a0 xs.length cap0, .int .i64 base, .int .i64 most, .int .i64 steps] w fun e w' => e = .returned (.bool true) ∧ Below w.heap.size w w' := by
  have J0 := Lib.hid I0; clear I0
  have W1 : wrap64 (1 + bits .and .i64 base 7) = 1 + base % 8 := by rw [mask_7]; unfold wrap64; omega
  have W2 : wrap64 (1 + base % 8 + bits .and .i64 most 31) = 1 + base % 8 + most % 32 := by rw [mask_31]; unfold wrap64; omega
  have W3 := mask_255 steps
  have hB1 : 1 ≤ 1 + base % 8 := by omega
  have hB2 : 1 + base % 8 ≤ 8 := by omega
  have hM1 : 1 + base % 8 ≤ 1 + base % 8 + most % 32 := by omega
  have hM2 : 1 + base % 8 + most % 32 ≤ 39 := by omega
  have n1 : 0 ≤ steps % 256 := by omega
  have n2 : steps % 256 < 256 := by omega
  generalize 1 + base % 8 + most % 32 = M at *
  generalize 1 + base % 8 = B at *
  generalize steps % 256 = n at *
  go_enter Try.func3, Try.ntmps3
  go_wp2_with fail
  refine (head_any _).mono ?_; rintro e w1 ⟨rfl, hb1⟩
  go_wp2_with fail
  refine (refRight_any _ _ _ _ (J0.out.ext hb1)).mono ?_; rintro e w2 ⟨rfl, hb2⟩
  replace hb2 := hb1.trans (hb2.mono hb1.size)
  clear hb1
  by_cases hc : setOkB xs = true
  · rw [hc]
    have S := Lib.hid (setOkB_iff.1 hc)
    have l0 := S.out.1
    have l7 := S.out.2.1
    go_wp2_with fail
    rw [W1, W2]
    clear W1 W2
    have hsz2 := hb2.size
    have KW := Lib.hid hb2; clear hb2
    go_loopw [9, 39] (fun v i wr => ∃ (k g cap : Nat) (l : List Tk), k ≤ xs.length ∧ l.length = k ∧ v = .slice (some ⟨g, 0, none⟩) k cap ∧ i = .int .i64 k ∧
        Hid (wr.ownsRow w2.heap.size 25 1 (.slice (some ⟨g, 0, none⟩) k cap) k (l.map ptr)) ∧ Hid (TimersAt wr xs l (alike xs B M B 0 0)) ∧ Hid (Apart w2.heap.size g l) ∧ Hid (Below w2.heap.size w2 wr))
      (fun _ i _ => xs.length - (intOf i).toNat)
    case atStart =>
      exact ⟨0, _, 0, [], by omega, rfl, rfl, rfl, ⟨by simp, .inr ⟨w2.heap.size, 0, #[], rfl, Nat.le_refl _, heap_top _ _, Nat.le_refl _, Nat.zero_le _, by simp, by simp⟩⟩, fun i t h => by simp at h, fun i t h => by simp at h, Lib.hid (by repeat (first | exact Below.refl _ _ | assumption | (refine Below.setCell ?_ (by first | omega | (simp; omega) | (simp; done)) _) | (refine below_drewN ?_ _) | (refine Below.drew ?_) | (refine Below.allocW ?_ _) | (refine Below.alloc ?_ (by first | omega | (simp; omega) | (simp; done)) _)))⟩
    case round =>
      obtain ⟨k, g, cap, l, hk, hl, rfl, rfl, OW, TA, AP, BR⟩ := hrel
      have hgl := (OW.out.lt g rfl).2
      by_cases hlt : k < xs.length
      · have JR := J0.out.ext (Below.step KW.out BR.out)
        obtain ⟨ha, hb, hcell⟩ := JR.at_ (by omega)
        replace hcell := hcell k hlt
        have HV := Lib.hid (show newTm (xs.getD k 0) B M 0 = alike xs B M B 0 0 k from newTm_alike _ _ _ hB1 (by omega) hM1 (by omega))
        have KR := Lib.hid JR
        clear JR
        generalize hv : xs.getD k 0 = v at *
        clear hv
        go_wp2_with (at_builtin; refine clone_ints rfl _ _ rfl _ rfl (heap_at _ _ _ (by simp)) _ _ _ rfl (KR.out.ext (by repeat (first | exact Below.refl _ _ | assumption | (refine Below.setCell ?_ (by first | omega | (simp; omega) | (simp; done)) _) | (refine below_drewN ?_ _) | (refine Below.drew ?_) | (refine Below.allocW ?_ _) | (refine Below.alloc ?_ (by first | omega | (simp; omega) | (simp; done)) _)))) s0 ?_; intro g2 cap2 w3 hb3 I3 _)
        replace hb3 : Below wr.heap.size wr w3 := ((Below.refl _ _).allocW _).trans (hb3.mono (Nat.le_refl _))
        refine (new_any _ _ xs v B M 0 _ I3 hc).mono ?_
        rintro e w4 ⟨b, ma, mc, rfl, T4, b4, h41, h42, hmb, hb4⟩
        rw [HV.out] at T4
        have hw4 := Lib.hid (Below.step hb3 b4)
        have hz3 := hb3.size
        replace T4 := Lib.hid T4
        clear b4 I3 hb3
        have hz4 := hw4.out.size
        have hgb : g ≠ b := by omega
        have hbz := BR.out.size
        have O4 := Lib.hid ((OW.out.kept (grown_none hw4.out) (.inr (by simp [Value.ownBlock]))).alloc (.cells #[.pointer (some ⟨b, 0, none⟩)] 25))
        have A4 := Lib.hid (AP.out.push (t := (b, ma, mc)) TA.out l0 (by show wr.heap.size ≤ blk ma; omega) hmb BR.out.size hgl)
        have T5 := Lib.hid (((TA.out.ext hw4.out).push (t := (b, ma, mc)) (by rw [hl]; exact T4.out)).ext (w' := w4.alloc (.cells #[.pointer (some ⟨b, 0, none⟩)] 25)) (by repeat (first | exact Below.refl _ _ | assumption | (refine Below.setCell ?_ (by first | omega | (simp; omega) | (simp; done)) _) | (refine below_drewN ?_ _) | (refine Below.drew ?_) | (refine Below.allocW ?_ _) | (refine Below.alloc ?_ (by first | omega | (simp; omega) | (simp; done)) _))))
        have B5 := Lib.hid (Below.step (W := w2) (Below.step BR.out hw4.out) (show Below w4.heap.size w4 (w4.alloc (.cells #[.pointer (some ⟨b, 0, none⟩)] 25)) from (by repeat (first | exact Below.refl _ _ | assumption | (refine Below.setCell ?_ (by first | omega | (simp; omega) | (simp; done)) _) | (refine below_drewN ?_ _) | (refine Below.drew ?_) | (refine Below.allocW ?_ _) | (refine Below.alloc ?_ (by first | omega | (simp; omega) | (simp; done)) _)))))
        go_wp2_with (at_builtin; go_loud (refine wpList_push_one rfl _ _ 27 rfl w2.heap.size 25 Try.underlying27 _ _ info_ptr (by rfl) _ _ _ _ rfl O4.out _ _ _ (by rfl) _ _ rfl (heap_at _ _ _ (by simp)) (by unfold maxLen; omega) (by omega) (by simp; omega) ?_); intro g' cap' w5 hown' hg' hgg)
        go_roundw
        case rel =>
          refine ⟨k + 1, g', cap', l ++ [(b, ma, mc)], by omega, by simp [hl], rfl, by first | go_num | (congr 1; omega), ?_, ?_, ?_, ?_⟩
          · have := hown'; simp only [List.map_append, List.map_cons, List.map_nil]; exact this
          · exact T5.out.grown A4.out hg'
          · exact A4.out.moved T5.out l0 (hgg.imp id (fun e => by rw [e]; exact Nat.le_refl _))
          · exact B5.out.grown hg' (by have := B5.out.size; omega) (fun n e => by cases e; exact (OW.out.lt g rfl).1)
        case measure => simp [intOf]; omega
      · have hk2 : k = xs.length := by omega
        subst hk2
        have HC := Lib.hid (ownsRow_cells OW.out)
        have KB := Lib.hid (Below.step KW.out BR.out)
        have hbz := BR.out.size
        clear OW BR KW hlt hk hgl
        go_wp2_with fail
        go_loopw [12, 13, 14, 15] (fun v1 v2 v3 v4 wq => ∃ (u k : Nat) (o wt : Int), v1 = .int .i64 u ∧ v2 = .int .i64 o ∧ v3 = .int .i64 wt ∧ v4 = .int .i64 k ∧ 1 ≤ k ∧ k ≤ 256 ∧ u < k ∧ 0 ≤ o ∧ o < k ∧ 1 ≤ wt ∧ wt ≤ M ∧
            Hid (TimersAt wq xs l (alike xs B M wt o u)) ∧ Hid (Cells wq (some ⟨g, 0, none⟩) (l.map ptr)) ∧ Hid (Below w.heap.size w wq)) (fun _ _ _ v4 _ => (257 - intOf v4).toNat)
        case atStart => exact ⟨0, 1, 0, B, rfl, rfl, rfl, rfl, by omega, by omega, by omega, by omega, by omega, by omega, by omega, TA, HC, KB⟩
        case round =>
          clear TA HC KB
          obtain ⟨u, k, o, wt, rfl, rfl, rfl, rfl, k1, k2, k3, o1, o2, t1, t2, TA, HC, KB⟩ := hrel
          by_cases hkn : (k : Int) ≤ n
          · have ik : I64 (k : Int) := ⟨by omega, by omega⟩
            go_wp2_with fail
            by_cases hf : (k : Int) - o < wt
            · go_loopw [16, 63] (fun v1 v2 wq => ∃ (j : Nat), v1 = .int .i64 (-1) ∧ v2 = .int .i64 j ∧ j ≤ xs.length ∧
                  Hid (TimersAt wq xs l (alike xs B M wt o u)) ∧ Hid (Cells wq (some ⟨g, 0, none⟩) (l.map ptr)) ∧ Hid (Below w.heap.size w wq)) (fun _ v2 _ => (xs.length - intOf v2).toNat)
              case atStart => exact ⟨0, rfl, rfl, by omega, TA, HC, KB⟩
              case round =>
                clear TA HC KB
                obtain ⟨j, rfl, rfl, hj, TA, HC, KB⟩ := hrel
                by_cases hjn : j < xs.length
                · obtain ⟨⟨b, ma, mc⟩, ht⟩ : ∃ t, l[j]? = some t := ⟨_, List.getElem?_eq_getElem (by omega)⟩
                  obtain ⟨cj, lg⟩ := ptr_cell HC.out ht
                  dsimp only at cj
                  have TJ := Lib.hid (TA.out j _ ht)
                  have ok := Lib.hid (show (alike xs B M wt o u j).ok from ⟨hB1, hM1, by show M ≤ _; omega, t1, t2, by show (0 : Int) ≤ u; omega, by show (u : Int) ≤ _; omega, ⟨by show _ ≤ o; omega, by show o ≤ _; omega⟩⟩)
                  have E := Lib.hid (show tmTick xs (alike xs B M wt o u j) k = (alike xs B M wt o u j, false) from tick_waits xs (by omega) hf)
                  have AJ := Lib.hid (AP.out j _ ht)
                  have HT := Lib.hid ht; clear ht
                  go_wp2_with fail
                  refine (tick_any _ _ _ _ _ k _ TJ.out ok.out ik).mono ?_
                  rintro e wt2 ⟨rfl, T3, hg3⟩
                  rw [E.out] at T3 ⊢
                  have T4 := Lib.hid ((TA.out.tick AP.out HT.out T3 hg3).congr (st' := alike xs B M wt o u) (fun i _ => by dsimp only; split; (rename_i e; rw [e]); rfl))
                  have H4 := Lib.hid (cells_grown HC.out hg3 (by exact AJ.out.2.1.1))
                  have K4 := Lib.hid (below_grown KB.out hg3 (by have := AJ.out.1; omega))
                  clear T3 hg3 TJ
                  go_wp2_with fail
                  go_roundw
                  case rel => exact ⟨j + 1, rfl, by first | go_num | (congr 1; omega), by omega, T4, H4, K4⟩
                  case measure => simp [intOf]; omega
                · go_wp2_with fail
                  go_roundw
                  case rel => exact ⟨u, k + 1, o, wt, rfl, rfl, rfl, by first | go_num | (congr 1; omega), by omega, by omega, by omega, by omega, by omega, by omega, by omega, TA, HC, KB⟩
                  case measure => simp [intOf]; omega
            · have hL : u % xs.length < xs.length := Nat.mod_lt _ (by omega)
              have LP := Lib.hid (fun j (hj : j < xs.length) => leader_place S.out (u := u) hj)
              have hLc : (u : Int) % (xs.length : Int) = ((u % xs.length : Nat) : Int) := by norm_cast
              generalize u % xs.length = L at *
              have E0 := Lib.hid (fun j => show tmTick xs (alike xs B M wt o u j) k = (alike xs B M (min (2 * wt) M) k ((u : Int) + 1) j, decide (leaderV xs ((u : Int) + 1) = xs.getD j 0)) from tick_fires xs (by omega) hf (by omega))
              go_loopw [16, 63] (fun v1 v2 wq => ∃ (j : Nat), v1 = .int .i64 (if L < j then (L : Int) else -1) ∧ v2 = .int .i64 j ∧ j ≤ xs.length ∧
                  Hid (TimersAt wq xs l (fun i => if i < j then alike xs B M (min (2 * wt) M) k ((u : Int) + 1) i else alike xs B M wt o u i)) ∧ Hid (Cells wq (some ⟨g, 0, none⟩) (l.map ptr)) ∧ Hid (Below w.heap.size w wq)) (fun _ v2 _ => (xs.length - intOf v2).toNat)
              case atStart => exact ⟨0, by rw [if_neg (by omega)], rfl, by omega, Lib.hid (TA.out.congr (fun i _ => by rw [if_neg (by omega)])), HC, KB⟩
              case round =>
                clear TA HC KB
                obtain ⟨j, rfl, rfl, hj, TA, HC, KB⟩ := hrel
                by_cases hjn : j < xs.length
                · obtain ⟨⟨b, ma, mc⟩, ht⟩ : ∃ t, l[j]? = some t := ⟨_, List.getElem?_eq_getElem (by omega)⟩
                  obtain ⟨cj, lg⟩ := ptr_cell HC.out ht
                  dsimp only at cj
                  have TJ := Lib.hid (show Tmr _ b ma mc xs (alike xs B M wt o u j) from by have := TA.out j _ ht; dsimp only at this; rw [if_neg (by omega)] at this; exact this)
                  have ok := Lib.hid (show (alike xs B M wt o u j).ok from ⟨hB1, hM1, by show M ≤ _; omega, t1, t2, by show (0 : Int) ≤ u; omega, by show (u : Int) ≤ _; omega, ⟨by show _ ≤ o; omega, by show o ≤ _; omega⟩⟩)
                  have AJ := Lib.hid (AP.out j _ ht)
                  have HT := Lib.hid ht; clear ht
                  have lp := LP.out j hjn
                  have E := Lib.hid (E0.out j)
                  have T4 := Lib.hid (fun (wx : World) (T3 : Tmr wx b ma mc xs (alike xs B M (min (2 * wt) M) k ((u : Int) + 1) j)) (hg3) =>
                    (TA.out.tick AP.out HT.out T3 hg3).congr (st' := fun i => if i < j + 1 then alike xs B M (min (2 * wt) M) k ((u : Int) + 1) i else alike xs B M wt o u i) (fun i _ => by
                      try dsimp only
                      by_cases q1 : i = j
                      · subst q1; rw [if_pos rfl, if_pos (by omega)]
                      · rw [if_neg q1]
                        by_cases q2 : i < j
                        · rw [if_pos q2, if_pos (by omega)]
                        · rw [if_neg q2, if_neg (by omega)]))
                  by_cases hjl : L = j
                  · subst hjl
                    have hd : decide (leaderV xs ((u : Int) + 1) = xs.getD L 0) = true := by simpa using lp.2 rfl
                    clear lp
                    rw [if_neg (show ¬ L < L by omega)]
                    go_wp2_with fail
                    refine (tick_any _ _ _ _ _ k _ TJ.out ok.out ik).mono ?_
                    rintro e wt2 ⟨rfl, T3, hg3⟩
                    rw [E.out] at T3 ⊢
                    dsimp only
                    rw [hd]
                    have T5 := Lib.hid (T4.out _ T3 hg3)
                    have H4 := Lib.hid (cells_grown HC.out hg3 (by exact AJ.out.2.1.1))
                    have K4 := Lib.hid (below_grown KB.out hg3 (by have := AJ.out.1; omega))
                    clear T3 hg3 TJ hd
                    go_wp2_with fail
                    go_roundw
                    case rel => exact ⟨L + 1, by rw [if_pos (by omega)], by first | go_num | (congr 1; omega), by omega, T5, H4, K4⟩
                    case measure => simp [intOf]; omega
                  · have hd : decide (leaderV xs ((u : Int) + 1) = xs.getD j 0) = false := by simpa using fun e => hjl (lp.1 e)
                    have hm : (if L < j then (L : Int) else -1) = if L < j + 1 then (L : Int) else -1 := by
                      by_cases q : L < j
                      · rw [if_pos q, if_pos (by omega)]
                      · rw [if_neg q, if_neg (by omega)]
                    rw [hm]
                    clear lp hm
                    generalize hmm : (if L < j + 1 then (L : Int) else -1) = m
                    replace hmm := Lib.hid hmm
                    go_wp2_with fail
                    refine (tick_any _ _ _ _ _ k _ TJ.out ok.out ik).mono ?_
                    rintro e wt2 ⟨rfl, T3, hg3⟩
                    rw [E.out] at T3 ⊢
                    dsimp only
                    rw [hd]
                    have T5 := Lib.hid (T4.out _ T3 hg3)
                    have H4 := Lib.hid (cells_grown HC.out hg3 (by exact AJ.out.2.1.1))
                    have K4 := Lib.hid (below_grown KB.out hg3 (by have := AJ.out.1; omega))
                    clear T3 hg3 TJ hd
                    go_wp2_with fail
                    go_roundw
                    case rel => exact ⟨j + 1, by rw [hmm.out], by first | go_num | (congr 1; omega), by omega, T5, H4, K4⟩
                    case measure => simp [intOf]; omega
                · have hjl : j = xs.length := by omega
                  subst hjl
                  rw [if_pos hL]
                  obtain ⟨⟨b, ma, mc⟩, ht⟩ : ∃ t, l[0]? = some t := ⟨_, List.getElem?_eq_getElem (by omega)⟩
                  obtain ⟨cj, lg⟩ := ptr_cell HC.out ht
                  dsimp only at cj
                  have TJ := Lib.hid (show Tmr _ b ma mc xs (alike xs B M (min (2 * wt) M) k ((u : Int) + 1) 0) from by have := TA.out 0 _ ht; dsimp only at this; rw [if_pos (by omega)] at this; exact this)
                  have T4 := Lib.hid (TA.out.congr (st' := alike xs B M (min (2 * wt) M) k ((u + 1 : Nat) : Int)) (fun i hi => by rw [if_pos (show i < xs.length by omega)]; rfl))
                  clear ht
                  go_wp2_with fail
                  refine (round_any _ _ _ _ _ _ TJ.out).mono ?_
                  rintro e w' ⟨rfl, rfl⟩
                  rw [show (alike xs B M (min (2 * wt) M) k ((u : Int) + 1) 0).round = (u : Int) + 1 from rfl]
                  go_wp2_with fail
                  go_roundw
                  case rel => exact ⟨u + 1, k + 1, k, min (2 * wt) M, by first | go_num | (congr 1; omega), rfl, by congr 1; split <;> omega, by first | go_num | (congr 1; omega), by omega, by omega, by omega, by omega, by omega, by omega, by omega, T4, HC, KB⟩
                  case measure => simp [intOf]; omega
          · go_wp2_with fail
            go_ret
            exact ⟨rfl, KB.out⟩
  · have hc' : setOkB xs = false := by simpa using hc
    rw [hc']
    go_wp2_with (at_builtin; refine clone_ints rfl _ _ rfl _ rfl (heap_at _ _ _ (by simp)) _ _ _ rfl (J0.out.ext (by repeat (first | exact Below.refl _ _ | assumption | (refine Below.setCell ?_ (by first | omega | (simp; omega) | (simp; done)) _) | (refine below_drewN ?_ _) | (refine Below.drew ?_) | (refine Below.allocW ?_ _) | (refine Below.alloc ?_ (by first | omega | (simp; omega) | (simp; done)) _)))) s0 ?_; intro g2 cap2 w3 hb3 I3 _)
    have hb4 := (hb2.allocW _).trans (hb3.mono (by simpa using hb2.size))
    refine (new_none _ _ xs 1 1 1 0 _ I3 hc').mono ?_; rintro e w' ⟨rfl, rfl⟩
    go_wp2_with fail
    go_ret
    exact ⟨rfl, hb4⟩
end Go.Proofs.Ytdjjiamiiglepaa
