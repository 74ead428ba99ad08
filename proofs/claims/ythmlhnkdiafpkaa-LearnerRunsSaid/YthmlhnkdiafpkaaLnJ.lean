/- The learner and the reference as plain data: they go together. No walk. -/
import Derived.Test.YthmlhnkdiafpkaaLnG4
namespace Go.Proofs.Ythmlhnkdiafpkaa
open Go.ChangeShapes Go.WideShapes Go.ChangeAt Go.RowKit Go.Syn Go.Eng Go.MapKept
set_option linter.unusedVariables false
set_option linter.unusedSimpArgs false
def RK.hd (k : RK) : Hd Vl := ⟨k.r, k.n, k.p.v⟩
structure RelL (L : Ln) (A : RA) : Prop where
  mem : A.mem = L.mem
  next : A.next = L.next
  top : A.top = L.top
  de : ∀ s v, mlk L.de s = some v ↔ ∃ d ∈ A.ds, d.slot = s ∧ d.p.v = v
  dn : (A.ds.map RD.slot).Nodup
  vo : ∀ s x h, mlk (L.heard s) x = some h ↔ ∃ k ∈ A.ks, k.node = x ∧ k.slot = s ∧ k.hd = h
  vne : ∀ s hs, mlk L.vo s = some hs → hs ≠ []
theorem nd_sub : ∀ (xs ys : List Int), xs.Nodup → (∀ x ∈ xs, x ∈ ys) → xs.length ≤ ys.length
  | [], _, _, _ => Nat.zero_le _
  | x :: xs, ys, hn, h => by
    rw [List.nodup_cons] at hn
    have hx := h x List.mem_cons_self
    have := nd_sub xs (ys.erase x) hn.2 fun z hz => (List.mem_erase_of_ne (fun e => hn.1 (by rw [← e]; exact hz))).2 (h z (List.mem_cons_of_mem _ hz))
    rw [List.length_erase_of_mem hx] at this
    have := List.length_pos_of_mem hx
    simp only [List.length_cons]; omega
theorem nd_same {xs ys : List Int} (h1 : xs.Nodup) (h2 : ys.Nodup) (h : ∀ x, x ∈ xs ↔ x ∈ ys) : xs.length = ys.length := Nat.le_antisymm (nd_sub xs ys h1 fun x hx => (h x).1 hx) (nd_sub ys xs h2 fun x hx => (h x).2 hx)
section
variable {L : Ln} {A A' : RA} {slot node r n : Int} {v : Vl}
theorem RelL.known (h : RelL L A) (s : Int) : A.known s = L.known s := by
  unfold RA.known Ln.known
  cases e : A.ds.find? (fun d => d.slot == s) with
  | none =>
    have : mlk L.de s = none := by
      cases e2 : mlk L.de s with
      | none => rfl
      | some u =>
        obtain ⟨d, hd, q1, q2⟩ := (h.de s u).1 e2
        have := List.find?_eq_none.1 e d hd
        rw [q1] at this; simp at this
    rw [this]; rfl
  | some d =>
    have hd := List.mem_of_find?_eq_some e
    have hs : d.slot = s := by simpa using List.find?_some e
    have : mlk L.de s = some d.p.v := (h.de s _).2 ⟨d, hd, hs, rfl⟩
    rw [this]; rfl
theorem RelL.openB (h : RelL L A) : A.openB slot v = L.openB slot v := by
  unfold RA.openB Ln.openB
  rw [h.known, h.next]
  unfold Ln.known
  cases mlk L.de slot <;> rfl
theorem RelL.size (h : RelL L A) (hi : LnInv L) : A.size = (L.size : Int) := by
  have n1 : (L.de.map (fun p : Int × Vl => p.1)).Nodup := hi.nde
  have n2 : (L.vo.map (fun p : Int × List (Int × Hd Vl) => p.1)).Nodup := hi.nvo
  have h1 : A.ds.length = L.de.length := by
    have := nd_same h.dn n1 fun x => by
      constructor
      · intro hx
        obtain ⟨d, hd, rfl⟩ := List.mem_map.1 hx
        exact List.mem_map.2 ⟨_, mlk_mem ((h.de d.slot d.p.v).2 ⟨d, hd, rfl, rfl⟩), rfl⟩
      · intro hx
        obtain ⟨p, hp, rfl⟩ := List.mem_map.1 hx
        obtain ⟨d, hd, q, _⟩ := (h.de p.1 p.2).1 (mem_mlk hi.nde hp)
        exact List.mem_map.2 ⟨d, hd, q⟩
    simpa using this
  have h2 : (dsl A.ks).length = L.vo.length := by
    have := nd_same (dsl_nodup A.ks) n2 fun x => by
      rw [dsl_mem]
      constructor
      · rintro ⟨k, hk, rfl⟩
        have := (h.vo k.slot k.node k.hd).2 ⟨k, hk, rfl, rfl, rfl⟩
        unfold Ln.heard at this
        cases e : mlk L.vo k.slot with
        | none => rw [e] at this; cases this
        | some hs => exact List.mem_map.2 ⟨_, mlk_mem e, rfl⟩
      · intro hx
        obtain ⟨p, hp, rfl⟩ := List.mem_map.1 hx
        have e := mem_mlk hi.nvo hp
        have hne := h.vne _ _ e
        obtain ⟨q, hq⟩ := List.exists_mem_of_ne_nil _ hne
        cases e2 : mlk p.2 q.1 with
        | none => exact absurd rfl ((mlk_none_iff.1 e2) q hq)
        | some u =>
          obtain ⟨k, hk, _, q2, _⟩ := (h.vo p.1 q.1 u).1 (by unfold Ln.heard; rw [e]; exact e2)
          exact ⟨k, hk, q2⟩
    simpa using this
  unfold RA.size Ln.size
  rw [h1, h2]; omega
theorem rm_full {most : Int} : ∀ (m : Nat) (s : Int) (out : List Int), ¬ (out.length : Int) < most → rmF A most m s out = out
  | 0, _, _, _ => rfl
  | m + 1, s, out, h => by
    show rmF A most m (s + 1) (if _ then _ else _) = out
    rw [if_neg fun q => h q.2]
    exact rm_full m (s + 1) out h
theorem RelL.miss (h : RelL L A) {most : Int} : ∀ (m : Nat) (s : Int) (out : List Int), m = (L.top - s + 1).toNat → rmF A most m s out = missF L.de L.top most m s out
  | 0, _, _, _ => rfl
  | m + 1, s, out, e => by
    rw [missF_step]
    by_cases hl : (out.length : Int) < most
    · rw [if_pos ⟨by omega, hl⟩]
      show rmF A most m (s + 1) (if _ then _ else _) = _
      have : (if (A.known s).2 = false ∧ (out.length : Int) < most then out ++ [s] else out) = if (mlk L.de s).isSome = true then out else out ++ [s] := by
        rw [h.known]
        unfold Ln.known
        cases mlk L.de s with
        | none => rw [if_pos ⟨rfl, hl⟩]; rfl
        | some u => rw [if_neg (fun q => by cases q.1)]; rfl
      rw [this]
      exact h.miss m (s + 1) _ (by omega)
    · rw [if_neg fun q => hl q.2]
      exact rm_full (m + 1) s out hl
theorem RelL.missing (h : RelL L A) (most : Int) : A.missing most = L.missing most := by
  unfold RA.missing Ln.missing
  rw [h.top, h.next]
  exact h.miss _ _ _ rfl
theorem RelL.up (h : RelL L A) (slot : Int) : RelL (L.up slot) { A with top := max A.top slot } := ⟨h.mem, h.next, by show max A.top slot = max L.top slot; rw [h.top], h.de, h.dn, h.vo, h.vne⟩
theorem heard_settle (s : Int) : (L.settle slot v).heard s = if s = slot then [] else L.heard s := by
  show (mlk (mdel L.vo slot) s).getD [] = _
  rw [mlk_del]
  split <;> rfl
theorem RelL.settle (h : RelL L A) (hno : mlk L.de slot = none) (hq : SetQ A slot v A') : RelL (L.settle slot v) A' := by
  obtain ⟨q1, q2, q3, q4, p, q5, q6⟩ := hq
  have hns : ∀ d ∈ A.ds, d.slot ≠ slot := fun d hd e => by
    have := (h.de slot d.p.v).2 ⟨d, hd, e, rfl⟩
    rw [hno] at this; cases this
  refine ⟨q1.trans h.mem, q2.trans h.next, q3.trans h.top, fun s u => ?_, ?_, fun s x hh => ?_, fun s hs => ?_⟩
  · show mlk (mput L.de slot v) s = some u ↔ _
    rw [mlk_put, q6]
    by_cases e : s = slot
    · rw [if_pos e]
      constructor
      · intro e2
        exact ⟨⟨slot, p⟩, List.mem_append_right _ (List.mem_singleton.2 rfl), e.symm, q5.trans (Option.some.inj e2)⟩
      · rintro ⟨d, hd, e1, e2⟩
        rcases List.mem_append.1 hd with hd | hd
        · exact absurd (e1.trans e) (hns d hd)
        · rw [List.mem_singleton.1 hd] at e2
          exact congrArg some (q5.symm.trans e2)
    · rw [if_neg e, h.de]
      constructor
      · rintro ⟨d, hd, e1⟩
        exact ⟨d, List.mem_append_left _ hd, e1⟩
      · rintro ⟨d, hd, e1, e2⟩
        rcases List.mem_append.1 hd with hd | hd
        · exact ⟨d, hd, e1, e2⟩
        · rw [List.mem_singleton.1 hd] at e1; exact absurd e1.symm e
  · rw [q6, List.map_append, List.nodup_append]
    refine ⟨h.dn, by simp, fun a ha b hb => ?_⟩
    obtain ⟨d, hd, rfl⟩ := List.mem_map.1 ha
    rw [show b = slot by simpa using hb]
    exact hns d hd
  · rw [heard_settle, q4]
    by_cases e : s = slot
    · rw [if_pos e]
      constructor
      · intro q; cases q
      · rintro ⟨k, hk, _, e2, _⟩
        have := (List.mem_filter.1 hk).2
        rw [e2, e] at this; simp at this
    · rw [if_neg e, h.vo]
      constructor
      · rintro ⟨k, hk, e1, e2, e3⟩
        exact ⟨k, List.mem_filter.2 ⟨hk, by rw [e2]; simpa using e⟩, e1, e2, e3⟩
      · rintro ⟨k, hk, e1⟩
        exact ⟨k, (List.mem_filter.1 hk).1, e1⟩
  · show mlk (mdel L.vo slot) s = some hs → _
    rw [mlk_del]
    split
    · intro q; cases q
    · exact h.vne s hs
theorem RelL.told (h : RelL L A) (hq : ToldQ A slot v A') : RelL (L.told slot v).1 A' := by
  unfold ToldQ at hq
  rw [h.openB] at hq
  unfold Ln.told
  by_cases ho : L.openB slot v = true
  · rw [if_pos ho] at hq ⊢
    exact (h.up slot).settle (openB_none ho) hq
  · rw [if_neg ho] at hq ⊢
    rw [hq]; exact h
theorem told_2 : (L.told slot v).2 = L.openB slot v := by
  unfold Ln.told
  cases L.openB slot v <;> rfl
theorem cmp_below {r n s m : Int} : compareV r n s m ≤ 0 ↔ belowB s m r n = false := by
  unfold compareV belowB
  rw [decide_eq_false_iff_not]
  unfold cmpV
  by_cases h1 : r < s
  · rw [if_pos h1, if_neg (by decide)]; omega
  · rw [if_neg h1]
    by_cases h2 : s < r
    · rw [if_pos h2, if_neg (by decide)]; omega
    · rw [if_neg h2, if_pos rfl]
      by_cases h3 : n < m
      · rw [if_pos h3]; omega
      · rw [if_neg h3]
        by_cases h4 : m < n
        · rw [if_pos h4]; omega
        · rw [if_neg h4]; omega
theorem heard_room_any (s : Int) : (L.room slot).heard s = L.heard s := by
  unfold Ln.room
  split
  · rename_i h
    show (mlk (mput L.vo slot []) s).getD [] = (mlk L.vo s).getD []
    rw [mlk_put]
    split
    · rename_i e
      rw [e]
      cases e2 : mlk L.vo slot with
      | none => rfl
      | some x => rw [e2] at h; cases h
    · rfl
  · rfl
theorem heard_note_any (h : Hd Vl) (s : Int) : (L.note node slot h).heard s = if s = slot then mput (L.heard slot) node h else L.heard s := by
  show (mlk (mput L.vo slot _) s).getD [] = _
  rw [mlk_put]
  split <;> rfl
theorem at_iff {k : RK} : k.at_ node slot = true ↔ k.node = node ∧ k.slot = slot := by unfold RK.at_; simp
theorem RelL.bad (h : RelL L A) (hb : balB r n = true) : A.badB node slot r n = decide (compareV r n (hdBal (mlk (L.heard slot) node)).1 (hdBal (mlk (L.heard slot) node)).2 ≤ 0) := by
  rw [Bool.eq_iff_iff, decide_eq_true_eq]
  unfold RA.badB
  rw [List.any_eq_true]
  constructor
  · rintro ⟨k, hk, e⟩
    rw [Bool.and_eq_true] at e
    obtain ⟨e1, e2⟩ := at_iff.1 e.1
    rw [(h.vo slot node k.hd).2 ⟨k, hk, e1, e2, rfl⟩]
    show compareV r n k.r k.n ≤ 0
    exact cmp_below.2 (by simpa using e.2)
  · intro hc
    cases e : mlk (L.heard slot) node with
    | none =>
      rw [e] at hc
      have hb : 1 ≤ r ∧ r ≤ 1099511627776 ∧ 1 ≤ n ∧ n ≤ 9 := by unfold balB at hb; exact of_decide_eq_true hb
      have := cmp_below.1 hc
      unfold belowB at this
      have := of_decide_eq_false this
      simp only [hdBal] at this
      omega
    | some x =>
      obtain ⟨k, hk, e1, e2, e3⟩ := (h.vo slot node x).1 e
      rw [e, ← e3] at hc
      exact ⟨k, hk, by rw [at_iff.2 ⟨e1, e2⟩]; rw [show belowB k.r k.n r n = false from cmp_below.1 hc]; rfl⟩
theorem RelL.note (h : RelL L A) {L1 : Ln} (h1 : L1 = (L.up slot).room slot) {T : Int} (hT : T = max A.top slot) {p : Pv} (hp : p.v = v) {A2 : RA} (hA : A2.mem = A.mem ∧ A2.next = A.next ∧ A2.top = T ∧ A2.ks = A.rest node slot ++ [⟨node, slot, r, n, p⟩] ∧ A2.ds = A.ds) : RelL (L1.note node slot ⟨r, n, v⟩) A2 := by
  obtain ⟨q1, q2, q3, q4, q5⟩ := hA
  obtain ⟨m1, m2, m3, m4⟩ := room_mem (L := L.up slot) (slot := slot)
  refine ⟨?_, ?_, ?_, fun s u => ?_, by rw [q5]; exact h.dn, fun s x hh => ?_, fun s hs => ?_⟩
  · rw [q1, h.mem, h1]; exact m1.symm
  · rw [q2, h.next, h1]; exact m3.symm
  · rw [q3, hT, h.top, h1]; exact m4.symm
  · rw [q5, ← h.de, h1]
    show mlk ((L.up slot).room slot).de s = some u ↔ _
    rw [m2]; rfl
  · rw [heard_note_any, q4]
    have hhd : ∀ s, L1.heard s = L.heard s := fun s => by rw [h1, heard_room_any]; rfl
    rw [hhd, hhd]
    have hrest : ∀ k, k ∈ A.rest node slot ↔ k ∈ A.ks ∧ ¬ (k.node = node ∧ k.slot = slot) := fun k => by
      unfold RA.rest
      rw [List.mem_filter, ← at_iff]
      cases k.at_ node slot <;> simp
    by_cases e : s = slot
    · rw [if_pos e, mlk_put]
      by_cases e2 : x = node
      · rw [if_pos e2]
        constructor
        · intro e3
          exact ⟨_, List.mem_append_right _ (List.mem_singleton.2 rfl), e2.symm, e.symm, by rw [← Option.some.inj e3]; show (⟨r, n, p.v⟩ : Hd Vl) = _; rw [hp]⟩
        · rintro ⟨k, hk, e3, e4, e5⟩
          rcases List.mem_append.1 hk with hk | hk
          · exact absurd ⟨e3.trans e2, e4.trans e⟩ ((hrest k).1 hk).2
          · rw [List.mem_singleton.1 hk] at e5
            rw [← e5]; show some (⟨r, n, v⟩ : Hd Vl) = some ⟨r, n, p.v⟩; rw [hp]
      · rw [if_neg e2, h.vo, e]
        constructor
        · rintro ⟨k, hk, e3, e4, e5⟩
          exact ⟨k, List.mem_append_left _ ((hrest k).2 ⟨hk, fun q => e2 (e3.symm.trans q.1)⟩), e3, e4, e5⟩
        · rintro ⟨k, hk, e3, e4, e5⟩
          rcases List.mem_append.1 hk with hk | hk
          · exact ⟨k, ((hrest k).1 hk).1, e3, e4, e5⟩
          · rw [List.mem_singleton.1 hk] at e3; exact absurd e3.symm e2
    · rw [if_neg e, h.vo]
      constructor
      · rintro ⟨k, hk, e3, e4, e5⟩
        exact ⟨k, List.mem_append_left _ ((hrest k).2 ⟨hk, fun q => e (e4.symm.trans q.2)⟩), e3, e4, e5⟩
      · rintro ⟨k, hk, e3, e4, e5⟩
        rcases List.mem_append.1 hk with hk | hk
        · exact ⟨k, ((hrest k).1 hk).1, e3, e4, e5⟩
        · rw [List.mem_singleton.1 hk] at e4; exact absurd e4.symm e
  · show mlk (mput L1.vo slot _) s = some hs → _
    rw [mlk_put]
    split
    · intro e
      rw [← Option.some.inj e]
      intro e2
      have := mlk_put (L1.heard slot) node ⟨r, n, v⟩ node
      rw [if_pos rfl, e2] at this; cases this
    · rename_i e
      rw [h1]
      have : mlk ((L.up slot).room slot).vo s = mlk L.vo s := by
        unfold Ln.room
        split
        · show mlk (mput L.vo slot []) s = _
          rw [mlk_put, if_neg e]
        · rfl
      rw [this]
      exact h.vne s hs
theorem votes_in (hn : NdK (L.heard slot)) (x : Int) : x ∈ votesFor (L.heard slot) r n v ↔ mlk (L.heard slot) x = some ⟨r, n, v⟩ := by
  unfold votesFor
  rw [List.mem_map]
  constructor
  · rintro ⟨p, hp, rfl⟩
    obtain ⟨h1, h2⟩ := List.mem_filter.1 hp
    rw [Bool.and_eq_true, Bool.and_eq_true, beq_iff_eq, beq_iff_eq, vlEqB_iff] at h2
    obtain ⟨a, ⟨b1, b2, b3⟩⟩ := p
    obtain ⟨⟨e1, e2⟩, e3⟩ := h2
    simp only at e1 e2 e3
    rw [← e1, ← e2, ← e3]
    exact mem_mlk hn h1
  · intro e
    exact ⟨_, List.mem_filter.2 ⟨mlk_mem e, by simp [vlEq_self]⟩, rfl⟩
theorem RelL.voted (h : RelL L A) (hi : LnInv L) (hq : RVQ A node slot r n v A') : (L.voted node slot r n v).2 = A.votedB node slot r n v ∧ RelL (L.voted node slot r n v).1 A' := by
  have hsame : (A.openB slot v && hasB A.mem node && balB r n) = (L.openB slot v && hasB L.mem node && balB r n) := by rw [h.openB, h.mem]
  unfold RVQ at hq
  unfold RA.votedB
  rw [hsame] at hq ⊢
  by_cases hy : (L.openB slot v && hasB L.mem node && balB r n) = true
  · rw [if_pos hy] at hq
    rw [hy]
    have hy2 := hy
    rw [Bool.and_eq_true, Bool.and_eq_true] at hy2
    obtain ⟨⟨ho, hm⟩, hb⟩ := hy2
    obtain ⟨⟨o1, o2, o3, o4⟩, o5⟩ := openB_iff.1 ho
    have hbad := h.bad (node := node) (slot := slot) hb
    obtain ⟨L1, eL1⟩ : ∃ L1, L1 = (L.up slot).room slot := ⟨_, rfl⟩
    have hh : L1.heard slot = L.heard slot := by rw [eL1, heard_room_any]; rfl
    have eV : L.voted node slot r n v = if compareV r n (hdBal (mlk (L.heard slot) node)).1 (hdBal (mlk (L.heard slot) node)).2 ≤ 0 then (L1, false) else if enoughB L.mem (votesFor ((L1.note node slot ⟨r, n, v⟩).heard slot) r n v) then ((L1.note node slot ⟨r, n, v⟩).settle slot v, true) else (L1.note node slot ⟨r, n, v⟩, false) := by
      unfold Ln.voted
      rw [if_pos hy]
      dsimp only
      rw [← eL1, hh]
    rw [eV]
    by_cases hc : compareV r n (hdBal (mlk (L.heard slot) node)).1 (hdBal (mlk (L.heard slot) node)).2 ≤ 0
    · rw [decide_eq_true hc] at hbad
      rw [hbad, if_pos rfl] at hq
      rw [if_pos hc, hbad]
      refine ⟨rfl, ?_⟩
      rw [hq]
      have : L1 = L.up slot := by
        rw [eL1]
        unfold Ln.room
        rw [if_neg]
        intro q
        have q : mlk L.vo slot = none := by
          have q : (mlk L.vo slot).isNone = true := q
          simpa using q
        have : L.heard slot = [] := by unfold Ln.heard; rw [q]; rfl
        rw [this, mlk_nil] at hc
        have hb2 : 1 ≤ r ∧ r ≤ 1099511627776 ∧ 1 ≤ n ∧ n ≤ 9 := by unfold balB at hb; exact of_decide_eq_true hb
        have := cmp_below.1 hc
        unfold belowB at this
        have := of_decide_eq_false this
        simp only [hdBal] at this
        omega
      rw [this]
      exact h.up slot
    · rw [decide_eq_false hc] at hbad
      rw [hbad, if_neg (by decide)] at hq
      rw [if_neg hc, hbad]
      obtain ⟨p, hp, q1, q2, q3, q4⟩ := hq
      have hi1 : LnInv L1 := by rw [eL1]; exact (hi.up o1 o3).room o1 o3 o5
      obtain ⟨m1, m2, m3, m4⟩ := room_mem (L := L.up slot) (slot := slot)
      rw [← eL1] at m1 m2 m3
      have hi2 : LnInv (L1.note node slot ⟨r, n, v⟩) := hi1.note (by rw [m3]; exact o1) o3 (by rw [m2]; exact o5) hb (by rw [m1]; exact hasB_iff.1 hm)
      have hrel : ∀ A2 : RA, A2.mem = A.mem ∧ A2.next = A.next ∧ A2.top = max A.top slot ∧ A2.ks = A.rest node slot ++ [⟨node, slot, r, n, p⟩] ∧ A2.ds = A.ds → RelL (L1.note node slot ⟨r, n, v⟩) A2 := fun A2 hA => h.note eL1 rfl hp hA
      obtain ⟨A2, eA2⟩ : ∃ x : RA, x = { A with top := max A.top slot, ks := A.rest node slot ++ [⟨node, slot, r, n, p⟩] } := ⟨_, rfl⟩
      have hr2 := hrel A2 (by rw [eA2]; exact ⟨rfl, rfl, rfl, rfl, rfl⟩)
      have hen : enoughB L.mem (votesFor ((L1.note node slot ⟨r, n, v⟩).heard slot) r n v) = enoughB A.mem (A.forIt node slot r n v) := by
        rw [h.mem]
        refine enough_same fun x _ => ?_
        rw [votes_in hi2.heard.1, hr2.vo]
        rw [eA2]
        unfold RA.forIt
        rw [List.mem_append, List.mem_map, List.mem_singleton]
        constructor
        · rintro ⟨k, hk, e1, e2, e3⟩
          rcases List.mem_append.1 hk with hk | hk
          · refine .inl ⟨k, List.mem_filter.2 ⟨hk, ?_⟩, e1⟩
            unfold RK.hd at e3
            injection e3 with e4 e5 e6
            unfold RK.hit
            rw [e2, e4, e5, e6]; simp [vlEq_self]
          · rw [List.mem_singleton.1 hk] at e1; exact .inr e1.symm
        · rintro (⟨k, hk, e1⟩ | e1)
          · obtain ⟨hk, e2⟩ := List.mem_filter.1 hk
            unfold RK.hit at e2
            rw [Bool.and_eq_true, Bool.and_eq_true, Bool.and_eq_true, beq_iff_eq, beq_iff_eq, beq_iff_eq, vlEqB_iff] at e2
            obtain ⟨e2, ⟨e3, e4⟩, e5⟩ := e2
            exact ⟨k, List.mem_append_left _ hk, e1, e2, by unfold RK.hd; rw [e3, e4, e5]⟩
          · exact ⟨_, List.mem_append_right _ (List.mem_singleton.2 rfl), e1.symm, rfl, by show (⟨r, n, p.v⟩ : Hd Vl) = _; rw [hp]⟩
      rw [hen]
      by_cases he : enoughB A.mem (A.forIt node slot r n v) = true
      · rw [if_pos he] at q4 ⊢
        rw [he]
        refine ⟨rfl, hr2.settle (by show mlk L1.de slot = none; rw [m2]; exact o5) ?_⟩
        rw [eA2]
        exact ⟨q1, q2, q3, q4.1, q4.2⟩
      · rw [if_neg he] at q4 ⊢
        rw [show enoughB A.mem (A.forIt node slot r n v) = false by simpa using he]
        exact ⟨rfl, hrel A' ⟨q1, q2, q3, q4.1, q4.2⟩⟩
  · rw [if_neg hy] at hq
    rw [show (L.openB slot v && hasB L.mem node && balB r n) = false by simpa using hy]
    unfold Ln.voted
    rw [if_neg hy, hq]
    exact ⟨rfl, h⟩
theorem heard_above {t s : Int} {M : Ln} (hv : M.vo = above L.vo t) : M.heard s = if t < s then L.heard s else [] := by
  unfold Ln.heard
  rw [hv, mlk_above]
  split <;> rfl
theorem RelL.cut (h : RelL L A) {t : Int} {b : Bool} (hq : WoQ A t b A') {M : Ln} (hm : M.mem = L.mem ∧ M.next = L.next ∧ M.top = L.top ∧ M.de = above L.de t ∧ M.vo = if b = true then above L.vo t else L.vo) : RelL M A' := by
  obtain ⟨q1, q2, q3, q4, q5⟩ := hq
  obtain ⟨m1, m2, m3, m4, m5⟩ := hm
  refine ⟨by rw [q1, m1, h.mem], by rw [q2, m2, h.next], by rw [q3, m3, h.top], fun s u => ?_, ?_, fun s x hh => ?_, fun s hs => ?_⟩
  · rw [m4, mlk_above, q5]
    by_cases e : t < s
    · rw [if_pos e, h.de]
      constructor
      · rintro ⟨d, hd, e1, e2⟩
        exact ⟨d, List.mem_filter.2 ⟨hd, by rw [e1]; exact decide_eq_true e⟩, e1, e2⟩
      · rintro ⟨d, hd, e1⟩
        exact ⟨d, (List.mem_filter.1 hd).1, e1⟩
    · rw [if_neg e]
      constructor
      · intro q; cases q
      · rintro ⟨d, hd, e1, _⟩
        have := of_decide_eq_true (List.mem_filter.1 hd).2
        rw [e1] at this; exact absurd this e
  · rw [q5]
    exact h.dn.sublist (List.Sublist.map _ List.filter_sublist)
  · rw [q4]
    cases b with
    | false =>
      rw [if_neg (by decide)] at m5
      unfold Ln.heard
      rw [m5]
      have := h.vo s x hh
      unfold Ln.heard at this
      have hfe : A.ks.filter (fun k => !false || decide (k.slot > t)) = A.ks := List.filter_eq_self.2 fun k _ => rfl
      rw [this, hfe]
    | true =>
      rw [if_pos rfl] at m5
      rw [heard_above m5]
      by_cases e : t < s
      · rw [if_pos e, h.vo]
        constructor
        · rintro ⟨k, hk, e1, e2, e3⟩
          exact ⟨k, List.mem_filter.2 ⟨hk, by rw [e2]; exact decide_eq_true e⟩, e1, e2, e3⟩
        · rintro ⟨k, hk, e1⟩
          exact ⟨k, (List.mem_filter.1 hk).1, e1⟩
      · rw [if_neg e]
        constructor
        · intro q; cases q
        · rintro ⟨k, hk, _, e2, _⟩
          have : decide (k.slot > t) = true := (List.mem_filter.1 hk).2
          have := of_decide_eq_true this
          rw [e2] at this; exact absurd this e
  · rw [m5]
    cases b with
    | false => rw [if_neg (by decide)]; exact h.vne s hs
    | true =>
      rw [if_pos rfl, mlk_above]
      split
      · exact h.vne s hs
      · intro q; cases q
theorem RelL.toNext (h : RelL L A) {t : Int} {M : Ln} (hm : M = { L with next := t }) : RelL M { A with next := t } := by
  rw [hm]
  exact ⟨h.mem, rfl, h.top, h.de, h.dn, h.vo, h.vne⟩
end
/-! ### What holds behind so many steps -/
structure RunS (i : Nat) (L : Ln) (A : RA) : Prop where
  inv : LnInv L
  rel : RelL L A
  kf : ∀ k ∈ A.ks, VlFit k.p.v
  df : ∀ d ∈ A.ds, VlFit d.p.v
  kn : ∀ k ∈ A.ks, I64 k.node
  kl : A.ks.length ≤ i
  dl : A.ds.length ≤ i
theorem RunS.ok {i : Nat} {L : Ln} {A : RA} (h : RunS i L A) (hi : i ≤ 900) : A.Ok := by
  have h1 := h.kl
  have h2 := h.dl
  refine ⟨h.kf, h.df, by omega, by omega, by rw [h.rel.mem]; exact h.inv.mem, by rw [h.rel.next]; exact h.inv.next1, by rw [h.rel.next]; exact h.inv.next2, by rw [h.rel.top]; exact h.inv.top0, by rw [h.rel.top]; exact h.inv.top2⟩
theorem RunS.new (mem : List Int) (next : Int) (hm : SetOk mem) (h1 : 1 ≤ next) (h2 : next ≤ 1099511627776) (A : RA) (hA : A.mem = mem ∧ A.next = next ∧ A.top = 0 ∧ A.ks = [] ∧ A.ds = []) : RunS 0 (Ln.new mem next) A := by
  obtain ⟨q1, q2, q3, q4, q5⟩ := hA
  refine ⟨LnInv.new hm h1 h2, ⟨q1, q2, q3, fun s v => ?_, by rw [q5]; exact List.nodup_nil, fun s x h => ?_, (fun s hs h => by cases h)⟩, fun k hk => (by rw [q4] at hk; cases hk), fun k hk => (by rw [q5] at hk; cases hk), fun k hk => (by rw [q4] at hk; cases hk), by rw [q4]; exact Nat.le_refl _, by rw [q5]; exact Nat.le_refl _⟩
  · rw [q5]
    exact ⟨(fun h => by cases h), (fun ⟨d, hd, _⟩ => by cases hd)⟩
  · rw [q4]
    exact ⟨(fun h => by cases h), (fun ⟨d, hd, _⟩ => by cases hd)⟩
section
variable {i : Nat} {L : Ln} {A A' : RA} {slot node r n : Int} {v : Vl}
theorem RunS.more (h : RunS i L A) : RunS (i + 1) L A := ⟨h.inv, h.rel, h.kf, h.df, h.kn, Nat.le_succ_of_le h.kl, Nat.le_succ_of_le h.dl⟩
theorem set_in (hq : SetQ A slot v A') (hv : VlFit v) (kf : ∀ k ∈ A.ks, VlFit k.p.v) (df : ∀ d ∈ A.ds, VlFit d.p.v) (kn : ∀ k ∈ A.ks, I64 k.node) : (∀ k ∈ A'.ks, VlFit k.p.v) ∧ (∀ d ∈ A'.ds, VlFit d.p.v) ∧ (∀ k ∈ A'.ks, I64 k.node) ∧ A'.ks.length ≤ A.ks.length ∧ A'.ds.length = A.ds.length + 1 := by
  obtain ⟨_, _, _, q4, p, q5, q6⟩ := hq
  rw [q4, q6]
  refine ⟨fun k hk => kf k (List.mem_filter.1 hk).1, fun d hd => ?_, fun k hk => kn k (List.mem_filter.1 hk).1, List.length_filter_le _ _, by rw [List.length_append]; rfl⟩
  rcases List.mem_append.1 hd with hd | hd
  · exact df d hd
  · rw [List.mem_singleton.1 hd]
    show VlFit p.v
    rw [q5]; exact hv
theorem RunS.told (h : RunS i L A) (hv : VlFit v) (hq : ToldQ A slot v A') : RunS (i + 1) (L.told slot v).1 A' := by
  have hr := h.rel.told hq
  have h1 := h.kl
  have h2 := h.dl
  unfold ToldQ at hq
  by_cases ho : A.openB slot v = true
  · rw [if_pos ho] at hq
    obtain ⟨a1, a2, a3, a4, a5⟩ := set_in hq hv h.kf h.df h.kn
    exact ⟨h.inv.told, hr, a1, a2, a3, Nat.le_trans a4 (Nat.le_succ_of_le h1), by rw [a5]; exact Nat.succ_le_succ h2⟩
  · rw [if_neg ho] at hq
    rw [hq] at hr ⊢
    exact ⟨h.inv.told, hr, h.kf, h.df, h.kn, by omega, by omega⟩
theorem RunS.voted (h : RunS i L A) (hv : VlFit v) (hq : RVQ A node slot r n v A') : (L.voted node slot r n v).2 = A.votedB node slot r n v ∧ RunS (i + 1) (L.voted node slot r n v).1 A' := by
  obtain ⟨he, hr⟩ := h.rel.voted h.inv hq
  refine ⟨he, ?_⟩
  have h1 := h.kl
  have h2 := h.dl
  unfold RVQ at hq
  split at hq
  · rename_i hyes
    have hn : I64 node := by
      rw [Bool.and_eq_true, Bool.and_eq_true] at hyes
      have hm := hasB_iff.1 hyes.1.2
      rw [h.rel.mem] at hm
      have := h.inv.memr node hm
      unfold I64; omega
    split at hq
    · rw [hq] at hr ⊢
      exact ⟨h.inv.voted, hr, h.kf, h.df, h.kn, Nat.le_succ_of_le h1, Nat.le_succ_of_le h2⟩
    · obtain ⟨p, hp, q1, q2, q3, q4⟩ := hq
      have hks : ∀ k ∈ A.rest node slot ++ [(⟨node, slot, r, n, p⟩ : RK)], VlFit k.p.v ∧ I64 k.node := fun k hk => by
        rcases List.mem_append.1 hk with hk | hk
        · have := (List.mem_filter.1 hk).1
          exact ⟨h.kf k this, h.kn k this⟩
        · rw [List.mem_singleton.1 hk]
          exact ⟨by show VlFit p.v; rw [hp]; exact hv, hn⟩
      have hkl : (A.rest node slot ++ [(⟨node, slot, r, n, p⟩ : RK)]).length ≤ i + 1 := by
        rw [List.length_append]
        exact Nat.succ_le_succ (Nat.le_trans (List.length_filter_le _ _) h1)
      split at q4
      · obtain ⟨q4, p2, q5, q6⟩ := q4
        refine ⟨h.inv.voted, hr, fun k hk => ?_, fun d hd => ?_, fun k hk => ?_, ?_, ?_⟩
        · rw [q4] at hk; exact (hks k (List.mem_filter.1 hk).1).1
        · rw [q6] at hd
          rcases List.mem_append.1 hd with hd | hd
          · exact h.df d hd
          · rw [List.mem_singleton.1 hd]; show VlFit p2.v; rw [q5]; exact hv
        · rw [q4] at hk; exact (hks k (List.mem_filter.1 hk).1).2
        · rw [q4]; exact Nat.le_trans (List.length_filter_le _ _) hkl
        · rw [q6, List.length_append]; exact Nat.succ_le_succ h2
      · obtain ⟨q4, q6⟩ := q4
        exact ⟨h.inv.voted, hr, fun k hk => (hks k (q4 ▸ hk)).1, fun d hd => h.df d (q6 ▸ hd), fun k hk => (hks k (q4 ▸ hk)).2, by rw [q4]; exact hkl, by rw [q6]; exact Nat.le_succ_of_le h2⟩
  · rw [hq] at hr ⊢
    exact ⟨h.inv.voted, hr, h.kf, h.df, h.kn, Nat.le_succ_of_le h1, Nat.le_succ_of_le h2⟩
theorem cut_in {t : Int} {b : Bool} (h : RunS i L A) (hq : WoQ A t b A') : (∀ k ∈ A'.ks, VlFit k.p.v) ∧ (∀ d ∈ A'.ds, VlFit d.p.v) ∧ (∀ k ∈ A'.ks, I64 k.node) ∧ A'.ks.length ≤ i + 1 ∧ A'.ds.length ≤ i + 1 := by
  obtain ⟨_, _, _, q4, q5⟩ := hq
  rw [q4, q5]
  exact ⟨fun k hk => h.kf k (List.mem_filter.1 hk).1, fun k hk => h.df k (List.mem_filter.1 hk).1, fun k hk => h.kn k (List.mem_filter.1 hk).1, Nat.le_trans (List.length_filter_le _ _) (Nat.le_succ_of_le h.kl), Nat.le_trans (List.length_filter_le _ _) (Nat.le_succ_of_le h.dl)⟩
theorem RunS.trim (h : RunS i L A) {t : Int} (ht : t = min slot (L.next - 1)) (hq : WoQ A t false A') : RunS (i + 1) (L.trim slot) A' := by
  obtain ⟨a1, a2, a3, a4, a5⟩ := cut_in h hq
  exact ⟨h.inv.trim, h.rel.cut hq (by rw [ht]; exact ⟨rfl, rfl, rfl, rfl, rfl⟩), a1, a2, a3, a4, a5⟩
theorem RunS.jump (h : RunS i L A) (hs : L.next < slot ∧ slot ≤ 1099511627776) (hq : WoQ A (slot - 1) true A') : RunS (i + 1) (L.jump slot).1 { A' with next := slot } := by
  obtain ⟨a1, a2, a3, a4, a5⟩ := cut_in h hq
  have hj : (L.jump slot).1 = { L with next := slot, de := above L.de (slot - 1), vo := above L.vo (slot - 1) } := by unfold Ln.jump; rw [if_neg (by omega)]
  refine ⟨h.inv.jump, ?_, a1, a2, a3, a4, a5⟩
  have hc := h.rel.cut hq (M := { L with de := above L.de (slot - 1), vo := above L.vo (slot - 1) }) ⟨rfl, rfl, rfl, rfl, rfl⟩
  rw [hj]
  exact hc.toNext rfl
theorem jump_no (hs : ¬ (L.next < slot ∧ slot ≤ 1099511627776)) : L.jump slot = (L, false) := by unfold Ln.jump; rw [if_pos (by omega)]
theorem jump_yes (hs : L.next < slot ∧ slot ≤ 1099511627776) : (L.jump slot).2 = true := by unfold Ln.jump; rw [if_neg (by omega)]
theorem RunS.passT (h : RunS i L A) (hk : (L.known L.next).2 = true) : L.pass.2 = true ∧ RunS (i + 1) L.pass.1 { A with next := L.next + 1 } := by
  have hp : L.pass = ({ L with next := L.next + 1 }, true) := if_pos hk
  have hi := h.inv.pass
  rw [hp] at hi ⊢
  exact ⟨rfl, hi, h.rel.toNext rfl, h.kf, h.df, h.kn, Nat.le_succ_of_le h.kl, Nat.le_succ_of_le h.dl⟩
theorem pass_no (hk : (L.known L.next).2 = false) : L.pass = (L, false) := by unfold Ln.pass; rw [if_neg (by show ¬ (mlk L.de L.next).isSome = true; rw [show (mlk L.de L.next).isSome = false from hk]; decide)]
end
end Go.Proofs.Ythmlhnkdiafpkaa
