/- Sessions, plain data: valid tables stay valid. No program in sight. -/
import Derived.Test.YthgkgllllomeeaaSeF
namespace Go.Proofs.Ythgkgllllomeeaa
open Go.Eng
set_option linter.unusedVariables false
set_option linter.unusedSimpArgs false
structure VSe (s : SsD) : Prop where
  no1 : 1 ≤ s.no
  no2 : s.no ≤ 1073741824
  ack1 : 0 ≤ s.ack
  ack2 : s.ack ≤ 1099511627776
  len : s.kept.length ≤ 8
  seqs : Rise (seqsK s.kept)
  each : ∀ k ∈ s.kept, s.ack < k.seq ∧ k.seq ≤ 1099511627776 ∧ 1 ≤ k.kind ∧ k.kind ≤ 3
structure VT (t : List SsD) : Prop where
  len : t.length ≤ 16
  nos : Rise (nosT t)
  each : ∀ s ∈ t, VSe s
theorem rise_cons {x : Int} {l : List Int} : Rise (x :: l) ↔ (∀ y ∈ l, x < y) ∧ Rise l := by rw [rise_pw, rise_pw, List.pairwise_cons]
theorem validK_iff (l : List KpD) : ∀ seq, validK seq l = true ↔ (∀ k ∈ l, seq < k.seq ∧ k.seq ≤ 1099511627776 ∧ 1 ≤ k.kind ∧ k.kind ≤ 3) ∧ Rise (seqsK l) := by
  induction l with
  | nil => intro seq; exact ⟨fun _ => ⟨fun k hk => by simp at hk, fun i j x y _ h => by simp [seqsK] at h⟩, fun _ => rfl⟩
  | cons k r ih =>
    intro seq
    unfold validK
    rw [Bool.and_eq_true, decide_eq_true_iff, ih k.seq]
    show _ ↔ _ ∧ Rise (k.seq :: seqsK r)
    rw [rise_cons]
    constructor
    · rintro ⟨h1, h2, h3⟩
      refine ⟨fun x hx => ?_, fun y hy => ?_, h3⟩
      · rcases List.mem_cons.1 hx with rfl | hx
        · exact h1
        · have := h2 x hx; omega
      · obtain ⟨x, hx, rfl⟩ := List.mem_map.1 hy
        exact (h2 x hx).1
    · rintro ⟨h1, h2, h3⟩
      refine ⟨h1 k List.mem_cons_self, fun x hx => ?_, h3⟩
      have := h1 x (List.mem_cons_of_mem _ hx)
      exact ⟨h2 _ (List.mem_map_of_mem hx), this.2⟩
theorem validS_iff (t : List SsD) : ∀ last, 0 ≤ last → (validS last t = true ↔ (∀ s ∈ t, last < s.no ∧ VSe s) ∧ Rise (nosT t)) := by
  induction t with
  | nil => intro last _; exact ⟨fun _ => ⟨fun k hk => by simp at hk, fun i j x y _ h => by simp [nosT] at h⟩, fun _ => rfl⟩
  | cons s r ih =>
    intro last h0
    unfold validS
    rw [Bool.and_eq_true, Bool.and_eq_true, decide_eq_true_iff, validK_iff]
    show _ ↔ _ ∧ Rise (s.no :: nosT r)
    rw [rise_cons]
    constructor
    · rintro ⟨⟨h1, h2, h3⟩, h4⟩
      obtain ⟨h5, h6⟩ := (ih s.no (by omega)).1 h4
      refine ⟨fun x hx => ?_, fun y hy => ?_, h6⟩
      · rcases List.mem_cons.1 hx with rfl | hx
        · exact ⟨h1.1, by omega, h1.2.1, h1.2.2.1, h1.2.2.2.1, h1.2.2.2.2, h3, h2⟩
        · have := h5 x hx
          exact ⟨by omega, this.2⟩
      · obtain ⟨x, hx, rfl⟩ := List.mem_map.1 hy
        exact (h5 x hx).1
    · rintro ⟨h1, h2, h3⟩
      obtain ⟨h4, h5⟩ := h1 s List.mem_cons_self
      refine ⟨⟨⟨h4, h5.no2, h5.ack1, h5.ack2, h5.len⟩, h5.each, h5.seqs⟩, (ih s.no (by omega)).2 ⟨fun x hx => ⟨h2 _ (List.mem_map_of_mem hx), (h1 x (List.mem_cons_of_mem _ hx)).2⟩, h3⟩⟩
theorem validT_iff (t : List SsD) : validT t = true ↔ VT t := by
  unfold validT
  rw [Bool.and_eq_true, decide_eq_true_iff, validS_iff t 0 (Int.le_refl _)]
  exact ⟨fun h => ⟨h.2, h.1.2, fun s hs => (h.1.1 s hs).2⟩, fun h => ⟨⟨fun s hs => ⟨by have := (h.each s hs).no1; omega, h.each s hs⟩, h.nos⟩, h.len⟩⟩
theorem VT.ok {t : List SsD} (h : VT t) : TOk t := ⟨by have := h.len; omega, fun s hs => by have := (h.each s hs).len; omega, h.nos, fun s hs => (h.each s hs).seqs⟩
theorem VT.nil : VT [] := ⟨Nat.zero_le _, fun i j x y _ h => by simp [nosT] at h, fun s hs => by simp at hs⟩
/-! ### Places -/
theorem pos_lt {ks : List Int} {t : Int} : ∀ {x : Nat} {k : Int}, x < posI ks t → ks[x]? = some k → k < t := by
  induction ks with
  | nil => intro x k h; simp [posI] at h
  | cons a r ih =>
    intro x k h hk
    unfold posI at h
    rw [List.takeWhile_cons] at h
    split at h
    · rename_i ha
      cases x with
      | zero => cases hk; exact of_decide_eq_true ha
      | succ x => exact ih (x := x) (by rw [List.length_cons] at h; unfold posI; omega) (by simpa using hk)
    · simp at h
theorem pos_at {ks : List Int} {t k : Int} (h : ks[posI ks t]? = some k) : t ≤ k := by
  induction ks with
  | nil => simp [posI] at h
  | cons a r ih =>
    unfold posI at h
    rw [List.takeWhile_cons] at h
    split at h
    · rw [List.length_cons, List.getElem?_cons_succ] at h
      exact ih h
    · rename_i ha
      cases h
      have : ¬ k < t := fun q => ha (decide_eq_true q)
      omega
theorem pos_ge {ks : List Int} {t : Int} (hr : Rise ks) {x : Nat} {k : Int} (h : posI ks t ≤ x) (hk : ks[x]? = some k) : t ≤ k := by
  have hx := (List.getElem?_eq_some_iff.1 hk).1
  obtain ⟨k0, h0⟩ : ∃ k0, ks[posI ks t]? = some k0 := ⟨_, List.getElem?_eq_getElem (by omega)⟩
  have h1 := pos_at h0
  rcases Nat.lt_or_ge (posI ks t) x with q | q
  · have := hr _ _ _ _ q h0 hk; omega
  · have : x = posI ks t := by omega
    subst this; rw [h0] at hk; cases hk; exact h1
theorem pos_gt {ks : List Int} {t : Int} (hr : Rise ks) (hh : hitI ks t = false) {x : Nat} {k : Int} (h : posI ks t ≤ x) (hk : ks[x]? = some k) : t < k := by
  have h1 := pos_ge hr h hk
  have hx := (List.getElem?_eq_some_iff.1 hk).1
  rcases Int.lt_or_eq_of_le h1 with q | q
  · exact q
  · subst q
    exfalso
    obtain ⟨k0, h0⟩ : ∃ k0, ks[posI ks t]? = some k0 := ⟨_, List.getElem?_eq_getElem (by omega)⟩
    have h2 := pos_at h0
    rcases Nat.lt_or_ge (posI ks t) x with q | q
    · have := hr _ _ _ _ q h0 hk; omega
    · have : x = posI ks t := by omega
      rw [this] at hk
      have := hit_iff.2 hk
      rw [hh] at this; cases this
theorem hit_mem {ks : List Int} {t : Int} (hr : Rise ks) : hitI ks t = true ↔ t ∈ ks := by
  constructor
  · intro h; exact List.mem_of_getElem? (hit_iff.1 h)
  · intro h
    rcases Bool.eq_false_or_eq_true (hitI ks t) with q | q
    · exact q
    · exfalso
      obtain ⟨x, hx⟩ := List.mem_iff_getElem?.1 h
      rcases Nat.lt_or_ge x (posI ks t) with z | z
      · have := pos_lt z hx; omega
      · have := pos_gt hr q z hx; omega
theorem rise_ins {ks : List Int} {t : Int} (hr : Rise ks) (hh : hitI ks t = false) : Rise (insAt ks (posI ks t) t) := by
  have hle := pos_le ks t
  intro i j x y hij hx hy
  rw [insAt_get _ hle] at hx hy
  split at hx
  · split at hy
    · exact hr _ _ _ _ hij hx hy
    · split at hy
      · cases hy; rename_i h1 _ _; exact pos_lt h1 hx
      · exact hr _ _ _ _ (by omega) hx hy
  · split at hx
    · cases hx
      rw [if_neg (by omega), if_neg (by omega)] at hy
      exact pos_gt hr hh (by omega) hy
    · rw [if_neg (by omega), if_neg (by omega)] at hy
      exact hr _ _ _ _ (by omega) hx hy
/-! ### Ask and Keep -/
theorem nosT_set {t : List SsD} {i : Nat} {s s' : SsD} (h : t[i]? = some s) (e : s'.no = s.no) : nosT (t.set i s') = nosT t := by
  unfold nosT
  rw [List.map_set, e]
  refine List.ext_getElem? fun j => ?_
  by_cases hj : i = j
  · subst hj
    obtain ⟨h1, h2⟩ := List.getElem?_eq_some_iff.1 h
    rw [List.getElem?_set_self (by rw [List.length_map]; exact h1), List.getElem?_map, h]; rfl
  · rw [List.getElem?_set_ne hj]
theorem VT.set {t : List SsD} (h : VT t) {i : Nat} {s s' : SsD} (hs : t[i]? = some s) (e : s'.no = s.no) (h' : VSe s') : VT (t.set i s') :=
  ⟨by rw [List.length_set]; exact h.len, by rw [nosT_set hs e]; exact h.nos, fun x hx => by
    rcases List.mem_or_eq_of_mem_set hx with hx | hx
    · exact h.each x hx
    · rw [hx]; exact h'⟩
theorem VT.tab {t : List SsD} (h : VT t) {sess : Int} (h1 : 1 ≤ sess) (h2 : sess ≤ 1073741824) (hn : ¬ (hitI (nosT t) sess = false ∧ 16 ≤ t.length)) : VT (tabS t sess) := by
  unfold tabS
  rcases Bool.eq_false_or_eq_true (hitI (nosT t) sess) with hh | hh
  · rw [if_pos hh]; exact h
  · rw [if_neg (by rw [hh]; decide)]
    have hle : posI (nosT t) sess ≤ t.length := by
      have := pos_le (nosT t) sess
      unfold nosT at this ⊢
      rwa [List.length_map] at this
    refine ⟨?_, ?_, fun x hx => ?_⟩
    · rw [insAt_len _ hle]
      have : ¬ 16 ≤ t.length := fun q => hn ⟨hh, q⟩
      omega
    · have := rise_ins h.nos hh
      unfold nosT at this ⊢
      rw [insAt_map]; exact this
    · rcases insAt_mem.1 hx with hx | hx
      · exact h.each x hx
      · rw [hx]
        exact ⟨h1, h2, Int.le_refl _, (by decide : (0 : Int) ≤ 1099511627776), Nat.zero_le _, fun i j x y _ h => by simp [seqsK] at h, fun k hk => by simp at hk⟩
theorem VSe.upd {s : SsD} (h : VSe s) {ack : Int} (h2 : ack ≤ 1099511627776) : VSe (updS ack s) := by
  have ha := h.ack1
  have hb := h.ack2
  refine ⟨h.no1, h.no2, ?_, ?_, Nat.le_trans (List.length_filter_le _ _) h.len, rise_filter h.seqs _, fun k hk => ?_⟩
  · show 0 ≤ max s.ack ack
    omega
  · show max s.ack ack ≤ _
    omega
  · obtain ⟨h3, h4⟩ := List.mem_filter.1 hk
    exact ⟨of_decide_eq_true h4, (h.each k h3).2⟩
/-- What Ask leaves behind: the whole of it, in one statement. -/
theorem ask_cases (t : List SsD) (sess seq ack : Int) : (hitI (nosT t) sess = false ∧ 16 ≤ t.length ∧ askV t sess seq ack = ⟨t, 5, 0, 0, true⟩) ∨
    (¬ (hitI (nosT t) sess = false ∧ 16 ≤ t.length) ∧ ∃ s, (tabS t sess)[posI (nosT t) sess]? = some s ∧ s.no = sess ∧ (hitI (nosT t) sess = true → t[posI (nosT t) sess]? = some s) ∧ (hitI (nosT t) sess = false → s = ⟨sess, 0, []⟩) ∧
      askV t sess seq ack = askS ((tabS t sess).set (posI (nosT t) sess) (updS ack s)) (updS ack s) seq) := by
  unfold askV
  by_cases h : hitI (nosT t) sess = false ∧ 16 ≤ t.length
  · rw [if_pos h]; exact .inl ⟨h.1, h.2, rfl⟩
  · rw [if_neg h]
    obtain ⟨s, hs, h1, h2, h3⟩ := tabS_at t sess
    refine .inr ⟨h, s, hs, h1, h2, h3, ?_⟩
    rw [hs]
theorem askS_t (t2 : List SsD) (s : SsD) (seq : Int) : (askS t2 s seq).t = t2 := by
  unfold askS
  split
  · rfl
  · split
    · split <;> rfl
    · split <;> rfl
theorem VT.ask {t : List SsD} (h : VT t) {sess seq ack : Int} (h1 : 1 ≤ sess) (h2 : sess ≤ 1073741824) (h3 : ack ≤ 1099511627776) : VT (askV t sess seq ack).t := by
  rcases ask_cases t sess seq ack with ⟨_, _, e⟩ | ⟨hn, s, hs, hsn, _, _, e⟩
  · rw [e]; exact h
  · rw [e, askS_t]
    have ht := h.tab h1 h2 hn
    exact ht.set hs rfl ((ht.each s (List.mem_of_getElem? hs)).upd h3)
theorem VT.keep {t : List SsD} (h : VT t) {sess seq k re im : Int} (h1 : seq ≤ 1099511627776) (h2 : 1 ≤ k) (h3 : k ≤ 3) : VT (keepV t sess seq k re im) := by
  unfold keepV
  split
  · exact h
  · split
    · exact h
    · rename_i s hs
      split
      · exact h
      · rename_i hc
        have hv := h.each s (List.mem_of_getElem? hs)
        have hh : hitI (seqsK s.kept) seq = false := by
          rcases Bool.eq_false_or_eq_true (hitI (seqsK s.kept) seq) with q | q
          · exact absurd (.inl q) hc
          · exact q
        have ha : ¬ seq ≤ s.ack := fun q => hc (.inr (.inl q))
        have h8 : ¬ 8 ≤ s.kept.length := fun q => hc (.inr (.inr q))
        have hle : posI (seqsK s.kept) seq ≤ s.kept.length := by
          have := pos_le (seqsK s.kept) seq
          unfold seqsK at this ⊢
          rwa [List.length_map] at this
        refine h.set hs rfl ⟨hv.no1, hv.no2, hv.ack1, hv.ack2, ?_, ?_, fun x hx => ?_⟩
        · show (insAt _ _ _).length ≤ 8
          rw [insAt_len _ hle]; omega
        · have := rise_ins hv.seqs hh
          unfold seqsK at this ⊢
          rw [insAt_map]; exact this
        · rcases insAt_mem.1 hx with hx | hx
          · exact hv.each x hx
          · rw [hx]; exact ⟨by show s.ack < seq; omega, h1, h2, h3⟩
end Go.Proofs.Ythgkgllllomeeaa
