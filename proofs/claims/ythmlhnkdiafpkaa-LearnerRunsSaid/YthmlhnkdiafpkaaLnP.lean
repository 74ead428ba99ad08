/- The learner's plain laws. No program in sight. -/
import Derived.Test.YthmlhnkdiafpkaaLn0
namespace Go.Eng
open Go.RowKit Go.Syn Go.MapKept Go.Proofs.Ythmlhnkdiafpkaa
set_option linter.unusedVariables false
set_option linter.unusedSimpArgs false
section
variable {L : Ln} {slot node r n : Int} {v : Vl}
theorem told_t (h : (L.told slot v).2 = true) : L.openB slot v = true ∧ (L.told slot v).1.de = mput L.de slot v := by
  unfold Ln.told at *
  split at h
  · rename_i ho; rw [if_pos ho]; exact ⟨ho, rfl⟩
  · cases h
theorem told_f (h : (L.told slot v).2 = false) : (L.told slot v).1 = L := by
  unfold Ln.told at *
  split at h
  · cases h
  · rename_i ho; rw [if_neg ho]
theorem told_next : (L.told slot v).1.next = L.next ∧ (L.told slot v).1.mem = L.mem := by unfold Ln.told; split <;> exact ⟨rfl, rfl⟩
theorem voted_t (h : (L.voted node slot r n v).2 = true) : L.openB slot v = true ∧ (L.voted node slot r n v).1.de = mput L.de slot v := by
  obtain ⟨_, e2, _, _⟩ := room_mem (L := L.up slot) (slot := slot)
  unfold Ln.voted at *
  split at h
  · rename_i ho
    rw [if_pos ho]
    simp only [Bool.and_eq_true] at ho
    refine ⟨ho.1.1, ?_⟩
    dsimp only at *
    split at h
    · cases h
    · rename_i h1
      rw [if_neg h1]
      split at h
      · rename_i h2
        rw [if_pos h2]
        show mput ((L.up slot).room slot).de slot v = _
        rw [e2]; rfl
      · cases h
  · cases h
theorem voted_f (h : (L.voted node slot r n v).2 = false) : (L.voted node slot r n v).1.de = L.de := by
  obtain ⟨_, e2, _, _⟩ := room_mem (L := L.up slot) (slot := slot)
  unfold Ln.voted at *
  split at h
  · rename_i ho
    rw [if_pos ho]
    dsimp only at *
    split at h
    · rename_i h1
      rw [if_pos h1]; exact e2
    · rename_i h1
      rw [if_neg h1]
      split at h
      · cases h
      · rename_i h2
        rw [if_neg h2]; exact e2
  · rename_i ho; rw [if_neg ho]
theorem voted_next : (L.voted node slot r n v).1.next = L.next ∧ (L.voted node slot r n v).1.mem = L.mem := by
  obtain ⟨e1, e2, e3, e4⟩ := room_mem (L := L.up slot) (slot := slot)
  unfold Ln.voted
  split
  · dsimp only
    split
    · exact ⟨e3, e1⟩
    · split
      · exact ⟨e3, e1⟩
      · exact ⟨e3, e1⟩
  · exact ⟨rfl, rfl⟩
theorem mput_len_le {α : Type} (m : List (Int × α)) (k : Int) (v : α) : (mput m k v).length ≤ m.length + 1 := by rw [mput_len]; split <;> omega
theorem mput_len_some {α : Type} {m : List (Int × α)} {k : Int} {v : α} (h : (mlk m k).isSome = true) : (mput m k v).length = m.length := by rw [mput_len, if_pos h]
theorem mdel_len_le {α : Type} (m : List (Int × α)) (k : Int) : (mdel m k).length ≤ m.length := List.length_filter_le _ _
theorem mdel_len_some {α : Type} {m : List (Int × α)} {k : Int} (h : (mlk m k).isSome = true) : (mdel m k).length + 1 ≤ m.length := by
  obtain ⟨x, hx⟩ := Option.isSome_iff_exists.1 h
  have : (mdel m k).length < m.length := by
    unfold mdel
    refine Nat.lt_of_le_of_ne (List.length_filter_le _ _) fun e => ?_
    have := List.length_filter_eq_length_iff.1 e _ (mlk_mem hx)
    simp at this
  omega
theorem told_size : (L.told slot v).1.size ≤ L.size + 1 := by
  unfold Ln.told
  split
  · have := mput_len_le L.de slot v
    have := mdel_len_le L.vo slot
    show (mdel L.vo slot).length + (mput L.de slot v).length ≤ L.vo.length + L.de.length + 1
    omega
  · exact Nat.le_succ _
theorem voted_size : (L.voted node slot r n v).1.size ≤ L.size + 1 := by
  have hroom : ((L.up slot).room slot).vo.length ≤ L.vo.length + 1 ∧ (mlk ((L.up slot).room slot).vo slot).isSome = true ∧ ((L.up slot).room slot).de = L.de := by
    unfold Ln.room
    split
    · rename_i h
      exact ⟨mput_len_le L.vo slot [], by show (mlk (mput L.vo slot []) slot).isSome = true; rw [mlk_put, if_pos rfl]; rfl, rfl⟩
    · rename_i h
      refine ⟨Nat.le_succ _, ?_, rfl⟩
      cases e : mlk (L.up slot).vo slot with
      | none => rw [e] at h; exact absurd rfl h
      | some x => rfl
  obtain ⟨h1, h2, h3⟩ := hroom
  unfold Ln.voted
  split
  · dsimp only
    have h4 : ∀ h : Hd Vl, (((L.up slot).room slot).note node slot h).vo.length ≤ L.vo.length + 1 := fun h => by
      show (mput _ _ _).length ≤ _
      rw [mput_len_some h2]; exact h1
    split
    · show ((L.up slot).room slot).vo.length + ((L.up slot).room slot).de.length ≤ _
      rw [h3]; unfold Ln.size; omega
    · split
      · have h5 := mput_len_le L.de slot v
        have h6 := mdel_len_some (m := (((L.up slot).room slot).note node slot ⟨r, n, v⟩).vo) (k := slot) (by show (mlk (mput _ _ _) _).isSome = true; rw [mlk_put, if_pos rfl]; rfl)
        have h7 := h4 ⟨r, n, v⟩
        show (mdel (((L.up slot).room slot).note node slot ⟨r, n, v⟩).vo slot).length + (mput ((L.up slot).room slot).de slot v).length ≤ _
        rw [h3]; unfold Ln.size; omega
      · have h7 := h4 ⟨r, n, v⟩
        show (((L.up slot).room slot).note node slot ⟨r, n, v⟩).vo.length + ((L.up slot).room slot).de.length ≤ _
        rw [h3]; unfold Ln.size; omega
  · exact Nat.le_succ _
theorem pass_size : L.pass.1.size = L.size := by unfold Ln.pass; split <;> rfl
theorem openB_none (h : L.openB slot v = true) : mlk L.de slot = none := (openB_iff.1 h).2
/-! ### Votes for one value -/
/-- What a learner knows of slot 5 behind votes of these nodes. -/
def CtI (ms : List Int) (v : Vl) (inn : List Int) (L : Ln) : Prop := L.mem = ms ∧ L.next = 5 ∧ (if enoughB ms inn = true then mlk L.de 5 = some v else mlk L.de 5 = none ∧ (∀ p ∈ L.heard 5, p.2 = ⟨3, 1, v⟩) ∧ ∀ x, (∃ p ∈ L.heard 5, p.1 = x) ↔ x ∈ ms ∧ x ∈ inn)
theorem inCount_mono {ms a b : List Int} (h : ∀ x ∈ ms, x ∈ a → x ∈ b) : inCount ms a ≤ inCount ms b := List.countP_mono_left fun x hx hh => hasB_iff.2 (h x hx (hasB_iff.1 hh))
theorem enough_mono {ms a b : List Int} (h : ∀ x ∈ ms, x ∈ a → x ∈ b) (he : enoughB ms a = true) : enoughB ms b = true := by
  have := inCount_mono h
  unfold enoughB at *
  simp only [decide_eq_true_eq] at *
  exact ⟨he.1, by omega⟩
theorem enough_same {ms a b : List Int} (h : ∀ x ∈ ms, x ∈ a ↔ x ∈ b) : enoughB ms a = enoughB ms b := by
  rw [Bool.eq_iff_iff]
  exact ⟨enough_mono fun x hx => (h x hx).1, enough_mono fun x hx => (h x hx).2⟩
theorem enough_nil (ms : List Int) : enoughB ms [] = false := by
  unfold enoughB inCount
  refine decide_eq_false fun h => ?_
  have : (ms.countP fun m => hasB [] m) = 0 := by rw [List.countP_eq_zero]; intro x _; simp [hasB]
  rw [this] at h
  unfold quorumV at h
  omega
theorem heard_room (hs : slot = slot) : ((L.up slot).room slot).heard slot = L.heard slot := by
  unfold Ln.room
  split
  · rename_i h
    unfold Ln.heard
    show (mlk (mput L.vo slot []) slot).getD [] = _
    rw [mlk_put, if_pos rfl]
    have h : (mlk L.vo slot).isNone = true := h
    have : mlk L.vo slot = none := by simpa using h
    rw [this]; rfl
  · rfl
theorem heard_note (h : Hd Vl) : (L.note node slot h).heard slot = mput (L.heard slot) node h := by
  show (mlk (mput L.vo slot _) slot).getD [] = _
  rw [mlk_put, if_pos rfl]; rfl
theorem vlEq_self (v : Vl) : vlEqB v v = true := vlEqB_iff.2 rfl
theorem ct_new {ms : List Int} (v : Vl) : CtI ms v [] (Ln.new ms 5) := by
  refine ⟨rfl, rfl, ?_⟩
  rw [if_neg (by rw [enough_nil]; decide)]
  refine ⟨rfl, (fun p hp => by cases hp), fun x => ⟨fun ⟨p, hp, _⟩ => (by cases hp), fun h => (by cases h.2)⟩⟩
theorem enough_app {ms inn : List Int} {x : Int} (h : x ∉ ms ∨ x ∈ inn) : enoughB ms (inn ++ [x]) = enoughB ms inn := enough_same fun y hy => by
  rw [List.mem_append, List.mem_singleton]
  constructor
  · rintro (q | rfl)
    · exact q
    · exact h.elim (fun q => absurd hy q) id
  · exact .inl
theorem ct_step {ms inn : List Int} {x : Int} (hv : valE v = 0) (h : CtI ms v inn L) : (L.voted x 5 3 1 v).2 = (enoughB ms (inn ++ [x]) && !enoughB ms inn) ∧ CtI ms v (inn ++ [x]) (L.voted x 5 3 1 v).1 := by
  obtain ⟨hm, hn, h⟩ := h
  have hnx := voted_next (L := L) (node := x) (slot := 5) (r := 3) (n := 1) (v := v)
  by_cases he : enoughB ms inn = true
  · rw [if_pos he] at h
    have he2 : enoughB ms (inn ++ [x]) = true := enough_mono (fun y _ q => List.mem_append_left _ q) he
    have e : L.voted x 5 3 1 v = (L, false) := by
      unfold Ln.voted
      rw [if_neg]
      have : L.openB 5 v = false := Bool.eq_false_iff.2 fun q => by rw [openB_none q] at h; cases h
      rw [this]; exact fun q => by cases q
    rw [e, he, he2]
    exact ⟨rfl, hm, hn, by rw [if_pos he2]; exact h⟩
  · rw [if_neg he] at h
    obtain ⟨h1, h2, h3⟩ := h
    have hef : enoughB ms inn = false := Bool.eq_false_iff.2 he
    have ho : L.openB 5 v = true := openB_iff.2 ⟨⟨by omega, by omega, by omega, hv⟩, h1⟩
    have hb : balB 3 1 = true := by decide
    by_cases hx : x ∈ ms
    · have hbr : (L.openB 5 v && hasB L.mem x && balB 3 1) = true := by rw [ho, hb, hm, hasB_iff.2 hx]; rfl
      have e0 : L.voted x 5 3 1 v = (if compareV 3 1 (hdBal (mlk (L.heard 5) x)).1 (hdBal (mlk (L.heard 5) x)).2 ≤ 0 then ((L.up 5).room 5, false) else if enoughB L.mem (votesFor ((((L.up 5).room 5).note x 5 ⟨3, 1, v⟩).heard 5) 3 1 v) then ((((L.up 5).room 5).note x 5 ⟨3, 1, v⟩).settle 5 v, true) else (((L.up 5).room 5).note x 5 ⟨3, 1, v⟩, false)) := by
        unfold Ln.voted
        rw [if_pos hbr]
        dsimp only
        rw [heard_room rfl]
      obtain ⟨r1, r2, r3, r4⟩ := room_mem (L := L.up 5) (slot := 5)
      have hro := heard_room (L := L) (slot := 5) rfl
      by_cases hin : x ∈ inn
      · obtain ⟨p, hp, hpx⟩ := (h3 x).2 ⟨hx, hin⟩
        have hsome : ∃ h0, mlk (L.heard 5) x = some h0 := by
          cases e : mlk (L.heard 5) x with
          | some h0 => exact ⟨h0, rfl⟩
          | none => exact absurd hpx (mlk_none_iff.1 e p hp)
        obtain ⟨h0, eh⟩ := hsome
        have e1 : h0 = ⟨3, 1, v⟩ := h2 _ (mlk_mem eh)
        have : compareV 3 1 (hdBal (mlk (L.heard 5) x)).1 (hdBal (mlk (L.heard 5) x)).2 ≤ 0 := by rw [eh, e1]; exact Int.le_refl 0
        rw [if_pos this] at e0
        have heq : enoughB ms (inn ++ [x]) = false := by rw [enough_app (.inr hin)]; exact hef
        rw [e0, heq]
        refine ⟨rfl, r1.trans hm, r3.trans hn, ?_⟩
        rw [if_neg (by rw [heq]; decide)]
        refine ⟨r2 ▸ h1, by rw [hro]; exact h2, fun y => ?_⟩
        rw [hro, h3 y, List.mem_append, List.mem_singleton]
        exact ⟨fun q => ⟨q.1, .inl q.2⟩, fun q => ⟨q.1, q.2.elim id fun e => e ▸ hin⟩⟩
      · have hnone : mlk (L.heard 5) x = none := mlk_none_iff.2 fun p hp e => hin ((h3 x).1 ⟨p, hp, e⟩).2
        have : ¬ compareV 3 1 (hdBal (mlk (L.heard 5) x)).1 (hdBal (mlk (L.heard 5) x)).2 ≤ 0 := by rw [hnone]; decide
        rw [if_neg this] at e0
        have hnote : (((L.up 5).room 5).note x 5 ⟨3, 1, v⟩).heard 5 = mput (L.heard 5) x ⟨3, 1, v⟩ := by rw [heard_note, hro]
        have hall : ∀ p ∈ mput (L.heard 5) x (⟨3, 1, v⟩ : Hd Vl), p.2 = ⟨3, 1, v⟩ := fun p hp => by
          rcases mput_mem hp with rfl | q
          · rfl
          · exact h2 p q.1
        have hkeys : ∀ y, (∃ p ∈ mput (L.heard 5) x (⟨3, 1, v⟩ : Hd Vl), p.1 = y) ↔ y ∈ ms ∧ y ∈ inn ++ [x] := fun y => by
          rw [List.mem_append, List.mem_singleton]
          constructor
          · rintro ⟨p, hp, rfl⟩
            rcases mput_mem hp with rfl | q
            · exact ⟨hx, .inr rfl⟩
            · have := (h3 p.1).1 ⟨p, q.1, rfl⟩
              exact ⟨this.1, .inl this.2⟩
          · rintro ⟨q1, q2 | rfl⟩
            · obtain ⟨p, hp, hpy⟩ := (h3 y).2 ⟨q1, q2⟩
              exact ⟨p, mem_mput hp fun e => hin (by rw [← e, hpy]; exact q2), hpy⟩
            · exact ⟨_, mput_in _ _ _, rfl⟩
        have hvf : ∀ y ∈ ms, y ∈ votesFor (mput (L.heard 5) x ⟨3, 1, v⟩) 3 1 v ↔ y ∈ inn ++ [x] := fun y hy => by
          unfold votesFor
          rw [List.mem_map]
          constructor
          · rintro ⟨p, hp, rfl⟩
            exact ((hkeys p.1).1 ⟨p, (List.mem_filter.1 hp).1, rfl⟩).2
          · intro q
            obtain ⟨p, hp, hpy⟩ := (hkeys y).2 ⟨hy, q⟩
            refine ⟨p, List.mem_filter.2 ⟨hp, ?_⟩, hpy⟩
            rw [hall p hp]; show (((3 : Int) == 3 && (1 : Int) == 1) && vlEqB v v) = true; rw [vlEq_self]; rfl
        have hen := enough_same hvf
        rw [hnote, hm, hen] at e0
        rw [e0, hef]
        by_cases hq : enoughB ms (inn ++ [x]) = true
        · rw [if_pos hq, hq]
          refine ⟨rfl, r1.trans hm, r3.trans hn, ?_⟩
          rw [if_pos hq]
          show mlk (mput ((L.up 5).room 5).de 5 v) 5 = some v
          rw [mlk_put, if_pos rfl]
        · rw [if_neg hq]
          have hq : enoughB ms (inn ++ [x]) = false := Bool.eq_false_iff.2 hq
          rw [hq]
          refine ⟨rfl, r1.trans hm, r3.trans hn, ?_⟩
          rw [if_neg (by rw [hq]; decide)]
          refine ⟨by show mlk ((L.up 5).room 5).de 5 = none; rw [r2]; exact h1, ?_, ?_⟩
          · show ∀ p ∈ (((L.up 5).room 5).note x 5 ⟨3, 1, v⟩).heard 5, _
            rw [hnote]; exact hall
          · show ∀ y, (∃ p ∈ (((L.up 5).room 5).note x 5 ⟨3, 1, v⟩).heard 5, _) ↔ _
            rw [hnote]; exact hkeys
    · have e : L.voted x 5 3 1 v = (L, false) := by
        unfold Ln.voted
        rw [if_neg]
        have : hasB L.mem x = false := by rw [hm]; exact Bool.eq_false_iff.2 fun q => hx (hasB_iff.1 q)
        rw [this, Bool.and_false]; exact fun q => by cases q
      have heq : enoughB ms (inn ++ [x]) = false := by rw [enough_app (.inl hx)]; exact hef
      rw [e, heq]
      refine ⟨rfl, hm, hn, ?_⟩
      rw [if_neg (by rw [heq]; decide)]
      refine ⟨h1, h2, fun y => ?_⟩
      rw [h3 y, List.mem_append, List.mem_singleton]
      exact ⟨fun q => ⟨q.1, .inl q.2⟩, fun q => ⟨q.1, q.2.elim id fun e => absurd (e ▸ q.1) hx⟩⟩
end
end Go.Eng
