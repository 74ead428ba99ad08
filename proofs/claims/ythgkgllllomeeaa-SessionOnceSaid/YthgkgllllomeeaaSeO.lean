/- Sessions, plain data: of each session and number at most one is run. No program in sight. -/
import Derived.Test.YthgkgllllomeeaaSeG
import Derived.Test.YthgkgllllomeeaaChk
namespace Go.Proofs.Ythgkgllllomeeaa
open Go.Eng Go.Syn
set_option linter.unusedVariables false
set_option linter.unusedSimpArgs false
def sameC (x c : CmD) : Prop := x.sess = c.sess ∧ x.seq = c.seq
structure OInv (t : List SsD) (ran : List CmD) : Prop where
  vt : VT t
  a : ∀ (i : Nat) (c : CmD), ran[i]? = some c → ∃ s ∈ t, s.no = c.sess ∧ (c.seq ≤ s.ack ∨ ∃ k ∈ s.kept, k.seq = c.seq ∧ k.kind = 1 ∧ k.re = (i : Int) + 1)
  b : ∀ s ∈ t, ∀ k ∈ s.kept, k.kind = 1 ∧ ∃ (i : Nat) (c : CmD), ran[i]? = some c ∧ c.sess = s.no ∧ c.seq = k.seq ∧ k.re = (i : Int) + 1
  c : ∀ (i j : Nat) (x y : CmD), ran[i]? = some x → ran[j]? = some y → sameC x y → i = j
theorem OInv.nil : OInv [] [] := ⟨VT.nil, fun i c h => by simp at h, fun s hs => by simp at hs, fun i j x y h => by simp at h⟩
theorem nos_inj {t : List SsD} (h : Rise (nosT t)) {s s' : SsD} (h1 : s ∈ t) (h2 : s' ∈ t) (e : s.no = s'.no) : s = s' := by
  obtain ⟨i, hi⟩ := List.mem_iff_getElem?.1 h1
  obtain ⟨j, hj⟩ := List.mem_iff_getElem?.1 h2
  have g1 : (nosT t)[i]? = some s.no := by unfold nosT; rw [List.getElem?_map, hi]; rfl
  have g2 : (nosT t)[j]? = some s'.no := by unfold nosT; rw [List.getElem?_map, hj]; rfl
  rcases Nat.lt_trichotomy i j with q | q | q
  · have := h i j _ _ q g1 g2; omega
  · subst q; rw [hi] at hj; cases hj; rfl
  · have := h j i _ _ q g2 g1; omega
theorem mem_set_ne {α : Type} {T : List α} {i : Nat} {s u x : α} (hs : T[i]? = some s) (hx : x ∈ T) (hne : x ≠ s) : x ∈ T.set i u := by
  obtain ⟨j, hj⟩ := List.mem_iff_getElem?.1 hx
  have hij : i ≠ j := fun q => by subst q; rw [hs] at hj; cases hj; exact hne rfl
  exact List.mem_iff_getElem?.2 ⟨j, by rw [List.getElem?_set_ne hij]; exact hj⟩
theorem mem_set_at {α : Type} {T : List α} {i : Nat} {s u : α} (hs : T[i]? = some s) : u ∈ T.set i u :=
  List.mem_iff_getElem?.2 ⟨i, List.getElem?_set_self (List.getElem?_eq_some_iff.1 hs).1⟩
theorem tab_mem {t : List SsD} {sess : Int} {x : SsD} (h : x ∈ tabS t sess) : x ∈ t ∨ x = ⟨sess, 0, []⟩ := by
  unfold tabS at h
  split at h
  · exact .inl h
  · exact insAt_mem.1 h
theorem mem_tab {t : List SsD} {sess : Int} {x : SsD} (h : x ∈ t) : x ∈ tabS t sess := by
  unfold tabS
  split
  · exact h
  · exact insAt_mem.2 (.inl h)
/-- Ask's table, with the commands that were run. -/
theorem OInv.upd {t : List SsD} {ran : List CmD} (I : OInv t ran) {sess ack : Int} (h1 : 1 ≤ sess) (h2 : sess ≤ 1073741824) (h3 : ack ≤ 1099511627776) (hn : ¬ (hitI (nosT t) sess = false ∧ 16 ≤ t.length)) {s : SsD}
    (hs : (tabS t sess)[posI (nosT t) sess]? = some s) (hsn : s.no = sess) (hs1 : hitI (nosT t) sess = true → t[posI (nosT t) sess]? = some s) (hs2 : hitI (nosT t) sess = false → s = ⟨sess, 0, []⟩) : OInv ((tabS t sess).set (posI (nosT t) sess) (updS ack s)) ran := by
  have hT := I.vt.tab h1 h2 hn
  refine ⟨hT.set hs rfl ((hT.each s (List.mem_of_getElem? hs)).upd h3), fun i c hc => ?_, fun x hx k hk => ?_, I.c⟩
  · obtain ⟨s0, g1, g2, g3⟩ := I.a i c hc
    by_cases e : s0 = s
    · subst e
      refine ⟨updS ack s0, mem_set_at hs, g2, ?_⟩
      rcases g3 with g3 | ⟨k, k1, k2, k3, k4⟩
      · exact .inl (by show c.seq ≤ max s0.ack ack; omega)
      · by_cases hl : max s0.ack ack < k.seq
        · exact .inr ⟨k, List.mem_filter.2 ⟨k1, decide_eq_true hl⟩, k2, k3, k4⟩
        · exact .inl (by show c.seq ≤ max s0.ack ack; omega)
    · exact ⟨s0, mem_set_ne hs (mem_tab g1) e, g2, g3⟩
  · rcases List.mem_or_eq_of_mem_set hx with hx | hx
    · rcases tab_mem hx with hx | hx
      · exact I.b x hx k hk
      · subst hx; cases hk
    · subst hx
      have hk2 : k ∈ s.kept := (List.mem_filter.1 hk).1
      rcases tab_mem (List.mem_of_getElem? hs) with q | q
      · exact I.b s q k hk2
      · rw [q] at hk2; cases hk2
theorem once_ask {t : List SsD} {ran : List CmD} (I : OInv t ran) (c : CmD) (h1 : 1 ≤ c.sess) (h2 : c.sess ≤ 1073741824) (h3 : c.ack ≤ 1099511627776) (h4 : c.seq ≤ 1099511627776) :
    OInv (askV t c.sess c.seq c.ack).t ran ∧
    ((askV t c.sess c.seq c.ack).d = true → ((askV t c.sess c.seq c.ack).k = 1 → ∃ (i : Nat) (x : CmD), ran[i]? = some x ∧ sameC x c ∧ (askV t c.sess c.seq c.ack).re = (i : Int) + 1) ∧
      ((askV t c.sess c.seq c.ack).k ≠ 1 → (askV t c.sess c.seq c.ack).k ≠ 4 → ∀ (i : Nat) (x : CmD), ran[i]? = some x → ¬ sameC x c)) ∧
    ((askV t c.sess c.seq c.ack).d = false → (∀ (i : Nat) (x : CmD), ran[i]? = some x → ¬ sameC x c) ∧ OInv (keepV (askV t c.sess c.seq c.ack).t c.sess c.seq 1 ((ran.length + 1 : Nat) : Int) 0) (ran ++ [c])) := by
  rcases ask_cases t c.sess c.seq c.ack with ⟨hh, hf, e⟩ | ⟨hn, s, hs, hsn, hs1, hs2, e⟩
  · rw [e]
    refine ⟨I, fun _ => ⟨fun q => by exact absurd q (by decide : ¬ (5 : Int) = 1), fun _ _ i x hx hsm => ?_⟩, fun q => by cases q⟩
    obtain ⟨s0, g1, g2, _⟩ := I.a i x hx
    have : c.sess ∈ nosT t := by rw [← hsm.1, ← g2]; exact List.mem_map_of_mem g1
    have := (hit_mem I.vt.nos).2 this
    rw [hh] at this; cases this
  · have I2 := I.upd (ack := c.ack) h1 h2 h3 hn hs hsn hs1 hs2
    obtain ⟨u, eu⟩ : ∃ u, u = updS c.ack s := ⟨_, rfl⟩
    rw [e]
    rw [← eu] at I2 ⊢
    have hun : u.no = c.sess := by rw [eu]; exact hsn
    obtain ⟨t2, et2⟩ : ∃ t2, t2 = (tabS t c.sess).set (posI (nosT t) c.sess) u := ⟨_, rfl⟩
    rw [← et2] at I2 ⊢
    have hu2 : u ∈ t2 := by rw [et2]; exact mem_set_at hs
    have huv := I2.vt.each u hu2
    have none_of : ¬ c.seq ≤ u.ack → hitI (seqsK u.kept) c.seq = false → ∀ (i : Nat) (x : CmD), ran[i]? = some x → ¬ sameC x c := fun q1 q2 i x hx hsm => by
      obtain ⟨s0, g1, g2, g3⟩ := I2.a i x hx
      have : s0 = u := nos_inj I2.vt.nos g1 hu2 (by rw [g2, hun]; exact hsm.1)
      subst this
      rcases g3 with g3 | ⟨k, k1, k2, _⟩
      · exact q1 (by rw [← hsm.2]; exact g3)
      · have : c.seq ∈ seqsK s0.kept := by rw [← hsm.2, ← k2]; exact List.mem_map_of_mem k1
        have := (hit_mem huv.seqs).2 this
        rw [q2] at this; cases this
    refine ⟨by rw [askS_t]; exact I2, ?_⟩
    unfold askS
    by_cases hst : c.seq ≤ u.ack
    · rw [if_pos hst]
      exact ⟨fun _ => ⟨fun q => by exact absurd q (by decide : ¬ (4 : Int) = 1), fun _ q => absurd rfl q⟩, fun q => by cases q⟩
    rw [if_neg hst]
    rcases Bool.eq_false_or_eq_true (hitI (seqsK u.kept) c.seq) with hk | hk
    · rw [if_pos hk]
      have h5 : (u.kept.map KpD.seq)[posI (seqsK u.kept) c.seq]? = some c.seq := hit_iff.1 hk
      rw [List.getElem?_map] at h5
      cases h6 : u.kept[posI (seqsK u.kept) c.seq]? with
      | none => rw [h6] at h5; cases h5
      | some k =>
        rw [h6] at h5
        simp only [Option.map_some, Option.some.injEq] at h5
        dsimp only
        obtain ⟨b1, i, x, b2, b3, b4, b5⟩ := I2.b u hu2 k (List.mem_of_getElem? h6)
        exact ⟨fun _ => ⟨fun _ => ⟨i, x, b2, ⟨by rw [b3, hun], by rw [b4, h5]⟩, b5⟩, fun q => absurd b1 q⟩, fun q => by cases q⟩
    rw [if_neg (by rw [hk]; decide)]
    have no := none_of hst hk
    by_cases h8 : 8 ≤ u.kept.length
    · rw [if_pos h8]
      exact ⟨fun _ => ⟨fun q => by exact absurd q (by decide : ¬ (6 : Int) = 1), fun _ _ => no⟩, fun q => by cases q⟩
    rw [if_neg h8]
    refine ⟨fun q => Bool.noConfusion q, fun _ => ⟨no, ?_⟩⟩
    dsimp only
    -- the reply is kept
    have hit2 : hitI (nosT t2) c.sess = true := (hit_mem I2.vt.nos).2 (by rw [← hun]; exact List.mem_map_of_mem hu2)
    obtain ⟨s', p1, p2, p3, _⟩ := tabS_at t2 c.sess
    have p4 := p3 hit2
    have : s' = u := nos_inj I2.vt.nos (List.mem_of_getElem? p4) hu2 (by rw [p2, hun])
    subst this
    obtain ⟨re, ere⟩ : ∃ re : Int, re = ((ran.length + 1 : Nat) : Int) := ⟨_, rfl⟩
    have hvk := I2.vt.keep (sess := c.sess) (seq := c.seq) (k := 1) (re := re) (im := 0) h4 (by decide) (by decide)
    have hkv : keepV t2 c.sess c.seq 1 re 0 = t2.set (posI (nosT t2) c.sess) ⟨s'.no, s'.ack, insAt s'.kept (posI (seqsK s'.kept) c.seq) ⟨c.seq, 1, re, 0⟩⟩ := by
      unfold keepV
      rw [if_neg (by rw [hit2]; decide), p4]
      dsimp only
      rw [if_neg (by rw [hk]; rintro (q | q | q) <;> first | cases q | omega)]
    rw [← ere]
    rw [hkv] at hvk ⊢
    have hget : ∀ {i : Nat} {x : CmD}, (ran ++ [c])[i]? = some x → ran[i]? = some x ∨ (i = ran.length ∧ x = c) := fun {i x} h => by
      rw [List.getElem?_append] at h
      split at h
      · exact .inl h
      · have h0 : i - ran.length < 1 := by
          rcases Nat.lt_or_ge (i - ran.length) 1 with z | z
          · exact z
          · rw [List.getElem?_eq_none (by simpa using z)] at h; cases h
        exact .inr ⟨by omega, List.mem_singleton.1 (List.mem_of_getElem? h)⟩
    have hold : ∀ {i : Nat} {x : CmD}, ran[i]? = some x → (ran ++ [c])[i]? = some x := fun {i x} h => by
      rw [List.getElem?_append_left (List.getElem?_eq_some_iff.1 h).1]; exact h
    have hnew : (ran ++ [c])[ran.length]? = some c := by rw [List.getElem?_append_right (Nat.le_refl _), Nat.sub_self]; rfl
    refine ⟨hvk, fun i x hx => ?_, fun x hx k hk2 => ?_, fun i j x y hx hy hsm => ?_⟩
    · rcases hget hx with hx | ⟨rfl, rfl⟩
      · obtain ⟨s0, g1, g2, g3⟩ := I2.a i x hx
        by_cases e2 : s0 = s'
        · subst e2
          exact ⟨_, mem_set_at p4, g2, g3.imp id fun ⟨k, k1, k2⟩ => ⟨k, insAt_mem.2 (.inl k1), k2⟩⟩
        · exact ⟨s0, mem_set_ne p4 g1 e2, g2, g3⟩
      · refine ⟨_, mem_set_at p4, p2, .inr ⟨⟨x.seq, 1, re, 0⟩, insAt_mem.2 (.inr rfl), rfl, rfl, ?_⟩⟩
        show re = _
        rw [ere]; omega
    · rcases List.mem_or_eq_of_mem_set hx with hx | hx
      · obtain ⟨b1, i, y, b2, b3⟩ := I2.b x hx k hk2
        exact ⟨b1, i, y, hold b2, b3⟩
      · subst hx
        rcases insAt_mem.1 hk2 with hk3 | hk3
        · obtain ⟨b1, i, y, b2, b3⟩ := I2.b s' hu2 k hk3
          exact ⟨b1, i, y, hold b2, b3⟩
        · subst hk3
          exact ⟨rfl, ran.length, c, hnew, p2.symm, rfl, by show re = _; rw [ere]; omega⟩
    · rcases hget hx with hx2 | ⟨e1, e2⟩
      · rcases hget hy with hy2 | ⟨e3, e4⟩
        · exact I2.c i j x y hx2 hy2 hsm
        · exact absurd (e4 ▸ hsm) (no i x hx2)
      · rcases hget hy with hy2 | ⟨e3, e4⟩
        · exact absurd ⟨hsm.1.symm.trans (by rw [e2]), hsm.2.symm.trans (by rw [e2])⟩ (no j y hy2)
        · rw [e1, e3]
end Go.Proofs.Ythgkgllllomeeaa
