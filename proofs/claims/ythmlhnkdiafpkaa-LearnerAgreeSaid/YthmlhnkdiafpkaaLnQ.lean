/- Rounds, votes and two learners: what was chosen stays. No program in sight. -/
import Derived.Test.YthmlhnkdiafpkaaLnP
namespace Go.Eng
open Go.RowKit Go.Syn Go.MapKept Go.Proofs.Ythmlhnkdiafpkaa
set_option linter.unusedVariables false
set_option linter.unusedSimpArgs false
def agV (b : Int) : Vl := ⟨1, [⟨b, 1, 0, ⟨1, 0, 0, 0, 0⟩⟩], []⟩
theorem agV_ok {b : Int} (h1 : 1 ≤ b) (h2 : b ≤ 1000) : valE (agV b) = 0 := by
  have e : valE (agV b) = firstE [⟨b, 1, 0, ⟨1, 0, 0, 0, 0⟩⟩] := rfl
  have e2 : cmdV ⟨b, 1, 0, ⟨1, 0, 0, 0, 0⟩⟩ = 0 := by
    unfold cmdV
    dsimp only
    rw [if_neg (by omega), if_pos (by kernel_rfl)]
  rw [e]
  unfold firstE
  rw [if_neg (by rw [e2]; simp)]; rfl
def upd (f : Nat → Int) (n : Nat) (v : Int) (x : Nat) : Int := if x = n then v else f x
/-- Two acceptors have voted in a round. -/
def Chosen (vt : List (Nat × Nat)) (r : Nat) : Prop := ∃ x y, x ≠ y ∧ (x, r) ∈ vt ∧ (y, r) ∈ vt
structure Px (bnd : Nat → Int) (vt : List (Nat × Nat)) (R : Nat) (vo wh : Nat → Int) : Prop where
  vr : ∀ x r, (x, r) ∈ vt → 1 ≤ r ∧ r ≤ R ∧ 1 ≤ x ∧ x ≤ 3 ∧ (r : Int) ≤ vo x
  vm : ∀ x, 1 ≤ x → x ≤ 3 → vo x = 0 ∨ ∃ r, (x, r) ∈ vt ∧ vo x = (r : Int) ∧ wh x = bnd r
  ch : ∀ r, Chosen vt r → ∀ q, r ≤ q → q ≤ R → bnd q = bnd r
  bp : ∀ r, 1 ≤ r → r ≤ R → 1 ≤ bnd r ∧ bnd r ≤ r
theorem px_new : Px (fun _ => 0) [] 0 (fun _ => 0) (fun _ => 0) := ⟨(fun x r h => by cases h), fun x _ _ => .inl rfl, (fun r ⟨x, y, _, h, _⟩ => by cases h), fun r h1 h2 => by omega⟩
theorem Chosen.up {vt : List (Nat × Nat)} {r : Nat} (h : Chosen vt r) (p : Nat × Nat) : Chosen (p :: vt) r := by
  obtain ⟨x, y, h1, h2, h3⟩ := h
  exact ⟨x, y, h1, .tail _ h2, .tail _ h3⟩
section
variable {bnd : Nat → Int} {vt : List (Nat × Nat)} {R : Nat} {vo wh : Nat → Int}
theorem Px.vote (h : Px bnd vt R vo wh) {n : Nat} (h1 : 1 ≤ n) (h3 : n ≤ 3) (hR : 1 ≤ R) : Px bnd ((n, R) :: vt) R (upd vo n R) (upd wh n (bnd R)) := by
  refine ⟨fun x r hx => ?_, fun x x1 x3 => ?_, fun r hr q q1 q2 => ?_, h.bp⟩
  · rcases List.mem_cons.1 hx with e | hx
    · obtain ⟨rfl, rfl⟩ := Prod.mk.inj e
      refine ⟨hR, Nat.le_refl _, h1, h3, ?_⟩
      unfold upd; rw [if_pos rfl]; exact Int.le_refl _
    · obtain ⟨a, b, c, d, e⟩ := h.vr x r hx
      refine ⟨a, b, c, d, ?_⟩
      unfold upd
      split
      · omega
      · exact e
  · unfold upd
    by_cases e : x = n
    · subst e
      rw [if_pos rfl, if_pos rfl]
      exact .inr ⟨R, .head _, rfl, rfl⟩
    · rw [if_neg e, if_neg e]
      exact (h.vm x x1 x3).imp id fun ⟨r, a, b⟩ => ⟨r, .tail _ a, b⟩
  · obtain ⟨x, y, hne, hx, hy⟩ := hr
    by_cases e : r = R
    · subst e
      rw [show q = r by omega]
    · have hx : (x, r) ∈ vt := by
        rcases List.mem_cons.1 hx with e2 | hx
        · exact absurd (Prod.mk.inj e2).2 e
        · exact hx
      have hy : (y, r) ∈ vt := by
        rcases List.mem_cons.1 hy with e2 | hy
        · exact absurd (Prod.mk.inj e2).2 e
        · exact hy
      exact h.ch r ⟨x, y, hne, hx, hy⟩ q q1 q2
/-- What a new round is bound by. -/
def bind1 (vo wh : Nat → Int) (n : Nat) (b0 : Int) : Int × Int := if vo n > 0 then (wh n, vo n) else (b0, 0)
def bind2 (vo wh : Nat → Int) (m : Nat) (p : Int × Int) : Int × Int := if vo m > p.2 then (wh m, vo m) else p
theorem Px.round (h : Px bnd vt R vo wh) {n m : Nat} (n1 : 1 ≤ n) (n3 : n ≤ 3) (m1 : 1 ≤ m) (m3 : m ≤ 3) (hnm : n ≠ m) : Px (fun r => if r = R + 1 then (bind2 vo wh m (bind1 vo wh n (R + 1))).1 else bnd r) vt (R + 1) vo wh := by
  have pos : ∀ x, 1 ≤ x → x ≤ 3 → 0 ≤ vo x := fun x a b => (h.vm x a b).elim (fun e => by omega) fun ⟨r, hr, e, _⟩ => by omega
  -- the answer: the highest vote's value
  have hres : ∃ q best : Nat, (q = n ∨ q = m) ∧ (best : Int) = vo q ∧ vo n ≤ best ∧ vo m ≤ best ∧ ((best = 0 ∧ (bind2 vo wh m (bind1 vo wh n (R + 1))).1 = R + 1) ∨ (1 ≤ best ∧ (q, best) ∈ vt ∧ (bind2 vo wh m (bind1 vo wh n (R + 1))).1 = bnd best)) := by
    have pn := pos n n1 n3
    have pm := pos m m1 m3
    unfold bind2 bind1
    by_cases hn : vo n > 0
    · rw [if_pos hn]
      dsimp only
      by_cases hm : vo m > vo n
      · rw [if_pos hm]
        rcases h.vm m m1 m3 with e | ⟨r, hr, e, e2⟩
        · omega
        · exact ⟨m, r, .inr rfl, e.symm, by omega, by omega, .inr ⟨(h.vr m r hr).1, hr, e2⟩⟩
      · rw [if_neg hm]
        rcases h.vm n n1 n3 with e | ⟨r, hr, e, e2⟩
        · omega
        · exact ⟨n, r, .inl rfl, e.symm, by omega, by omega, .inr ⟨(h.vr n r hr).1, hr, e2⟩⟩
    · rw [if_neg hn]
      dsimp only
      by_cases hm : vo m > 0
      · rw [if_pos hm]
        rcases h.vm m m1 m3 with e | ⟨r, hr, e, e2⟩
        · omega
        · exact ⟨m, r, .inr rfl, e.symm, by omega, by omega, .inr ⟨(h.vr m r hr).1, hr, e2⟩⟩
      · rw [if_neg hm]
        exact ⟨n, 0, .inl rfl, by omega, by omega, by omega, .inl ⟨rfl, rfl⟩⟩
  obtain ⟨q, best, hq, hb, bn, bm, hr⟩ := hres
  obtain ⟨nb, enb⟩ : ∃ nb, nb = (bind2 vo wh m (bind1 vo wh n (R + 1))).1 := ⟨_, rfl⟩
  rw [← enb] at hr ⊢
  have old : ∀ r, r ≤ R → (if r = R + 1 then nb else bnd r) = bnd r := fun r hr => if_neg (by omega)
  refine ⟨fun x r hx => ?_, fun x x1 x3 => ?_, fun r hc j j1 j2 => ?_, fun r r1 r2 => ?_⟩
  · obtain ⟨a, b, c⟩ := h.vr x r hx
    exact ⟨a, by omega, c⟩
  · refine (h.vm x x1 x3).imp id fun ⟨r, a, b, c⟩ => ⟨r, a, b, ?_⟩
    rw [old r (h.vr x r a).2.1]; exact c
  · obtain ⟨x, y, hne, hx, hy⟩ := hc
    have vx := h.vr x r hx
    have vy := h.vr y r hy
    show (if j = R + 1 then nb else bnd j) = (if r = R + 1 then nb else bnd r)
    rw [old r vx.2.1]
    by_cases e : j = R + 1
    · rw [if_pos e]
      have hle : (r : Int) ≤ best := by
        have : x = n ∨ x = m ∨ y = n ∨ y = m := by omega
        rcases this with rfl | rfl | rfl | rfl <;> omega
      rcases hr with ⟨b0, _⟩ | ⟨b1, hbv, e2⟩
      · omega
      · rw [e2]
        exact h.ch r ⟨x, y, hne, hx, hy⟩ best (by omega) (h.vr q best hbv).2.1
    · rw [if_neg e]
      exact h.ch r ⟨x, y, hne, hx, hy⟩ j j1 (by omega)
  · show 1 ≤ (if r = R + 1 then nb else bnd r) ∧ (if r = R + 1 then nb else bnd r) ≤ r
    by_cases e : r = R + 1
    · rw [if_pos e]
      rcases hr with ⟨_, e2⟩ | ⟨b1, hbv, e2⟩
      · rw [e2]; omega
      · have := (h.vr q best hbv).2.1
        have := h.bp best b1 this
        rw [e2]; omega
    · rw [if_neg e]
      exact h.bp r r1 (by omega)
/-- What a learner has heard of slot 1. -/
def Lv (bnd : Nat → Int) (vt : List (Nat × Nat)) (L : Ln) : Prop := L.mem = [1, 2, 3] ∧ L.next = 1 ∧ ((∃ r, Chosen vt r ∧ mlk L.de 1 = some (agV (bnd r))) ∨ (mlk L.de 1 = none ∧ ∀ p ∈ L.heard 1, ∃ x r : Nat, p.1 = (x : Int) ∧ (x, r) ∈ vt ∧ p.2 = ⟨(r : Int), 1, agV (bnd r)⟩))
theorem lv_new : Lv bnd vt (Ln.new [1, 2, 3] 1) := ⟨rfl, rfl, .inr ⟨rfl, fun p hp => by cases hp⟩⟩
theorem Lv.up {L : Ln} (h : Lv bnd vt L) (p : Nat × Nat) : Lv bnd (p :: vt) L :=
  ⟨h.1, h.2.1, h.2.2.imp (fun ⟨r, a, b⟩ => ⟨r, a.up p, b⟩) fun ⟨a, b⟩ => ⟨a, fun q hq => (b q hq).imp fun x ⟨r, c, d, e⟩ => ⟨r, c, .tail _ d, e⟩⟩⟩
theorem Lv.ext {L : Ln} {bnd' : Nat → Int} (h : Lv bnd vt L) (hb : ∀ x r, (x, r) ∈ vt → bnd' r = bnd r) : Lv bnd' vt L :=
  ⟨h.1, h.2.1, h.2.2.imp (fun ⟨r, a, b⟩ => ⟨r, a, by obtain ⟨x, y, _, hx, _⟩ := a; rw [hb x r hx]; exact b⟩) fun ⟨a, b⟩ => ⟨a, fun q hq => (b q hq).imp fun x ⟨r, c, d, e⟩ => ⟨r, c, d, by rw [hb x r d]; exact e⟩⟩⟩
theorem two_of {vs : List Int} (h : enoughB [1, 2, 3] vs = true) : ∃ x y : Int, x ≠ y ∧ x ∈ vs ∧ y ∈ vs := by
  unfold enoughB quorumV at h
  have h := (of_decide_eq_true h).2
  have e : inCount [1, 2, 3] vs = (if hasB vs 1 = true then 1 else 0) + ((if hasB vs 2 = true then 1 else 0) + (if hasB vs 3 = true then 1 else 0)) := by
    unfold inCount
    simp only [List.countP_cons, List.countP_nil]
    split <;> split <;> split <;> simp_all
  rw [e] at h
  by_cases h1 : hasB vs 1 = true
  · by_cases h2 : hasB vs 2 = true
    · exact ⟨1, 2, by decide, hasB_iff.1 h1, hasB_iff.1 h2⟩
    · by_cases h3 : hasB vs 3 = true
      · exact ⟨1, 3, by decide, hasB_iff.1 h1, hasB_iff.1 h3⟩
      · rw [if_pos h1, if_neg h2, if_neg h3] at h; exact absurd h (by decide)
  · by_cases h2 : hasB vs 2 = true
    · by_cases h3 : hasB vs 3 = true
      · exact ⟨2, 3, by decide, hasB_iff.1 h2, hasB_iff.1 h3⟩
      · rw [if_neg h1, if_pos h2, if_neg h3] at h; exact absurd h (by decide)
    · rw [if_neg h1, if_neg h2] at h
      split at h <;> exact absurd h (by decide)
theorem Lv.hear {L : Ln} (h : Lv bnd vt L) {n R : Nat} (hv : (n, R) ∈ vt) : Lv bnd vt (L.voted n 1 R 1 (agV (bnd R))).1 := by
  obtain ⟨h1, h2, h3⟩ := h
  obtain ⟨e1, e2⟩ := voted_next (L := L) (node := (n : Int)) (slot := 1) (r := (R : Int)) (n := 1) (v := agV (bnd R))
  refine ⟨e2.trans h1, e1.trans h2, ?_⟩
  rcases h3 with ⟨r, a, b⟩ | ⟨a, b⟩
  · refine .inl ⟨r, a, ?_⟩
    have : L.voted n 1 R 1 (agV (bnd R)) = (L, false) := by
      unfold Ln.voted
      rw [if_neg]
      have : L.openB 1 (agV (bnd R)) = false := Bool.eq_false_iff.2 fun q => by rw [openB_none q] at b; cases b
      rw [this]; exact fun q => by cases q
    rw [this]; exact b
  · obtain ⟨r1, r2, r3, r4⟩ := room_mem (L := L.up 1) (slot := 1)
    have hro := heard_room (L := L) (slot := 1) rfl
    unfold Ln.voted
    split
    · dsimp only
      split
      · exact .inr ⟨by rw [r2]; exact a, by rw [hro]; exact b⟩
      · have hnote : ((((L.up 1).room 1).note n 1 ⟨R, 1, agV (bnd R)⟩)).heard 1 = mput (L.heard 1) n ⟨R, 1, agV (bnd R)⟩ := by rw [heard_note, hro]
        have hall : ∀ p ∈ mput (L.heard 1) (n : Int) (⟨(R : Int), 1, agV (bnd R)⟩ : Hd Vl), ∃ x r : Nat, p.1 = (x : Int) ∧ (x, r) ∈ vt ∧ p.2 = ⟨(r : Int), 1, agV (bnd r)⟩ := fun p hp => by
          rcases mput_mem hp with rfl | q
          · exact ⟨n, R, rfl, hv, rfl⟩
          · exact b p q.1
        split
        · rename_i he
          refine .inl ⟨R, ?_, by show mlk (mput _ _ _) 1 = _; rw [mlk_put, if_pos rfl]⟩
          rw [h1, hnote] at he
          obtain ⟨x, y, hne, hx, hy⟩ := two_of he
          have get : ∀ z ∈ votesFor (mput (L.heard 1) (n : Int) (⟨(R : Int), 1, agV (bnd R)⟩ : Hd Vl)) R 1 (agV (bnd R)), ∃ k : Nat, z = (k : Int) ∧ (k, R) ∈ vt := fun z hz => by
            unfold votesFor at hz
            obtain ⟨p, hp, rfl⟩ := List.mem_map.1 hz
            obtain ⟨p1, p2⟩ := List.mem_filter.1 hp
            obtain ⟨k, r, k1, k2, k3⟩ := hall p p1
            rw [k3] at p2
            simp only [Bool.and_eq_true, beq_iff_eq] at p2
            have : r = R := by have := p2.1.1; omega
            subst this
            exact ⟨k, k1, k2⟩
          obtain ⟨kx, ex, mx⟩ := get x hx
          obtain ⟨ky, ey, my⟩ := get y hy
          exact ⟨kx, ky, fun e => hne (by rw [ex, ey, e]), mx, my⟩
        · refine .inr ⟨by show ((L.up 1).room 1).de |> fun d => mlk d 1 = none; exact r2 ▸ a, ?_⟩
          rw [hnote]; exact hall
    · exact .inr ⟨a, b⟩
theorem lv_agree {L M : Ln} (h : Px bnd vt R vo wh) (hL : Lv bnd vt L) (hM : Lv bnd vt M) {v u : Vl} (h1 : mlk L.de 1 = some v) (h2 : mlk M.de 1 = some u) : v = u := by
  have get : ∀ {L : Ln} {v : Vl}, Lv bnd vt L → mlk L.de 1 = some v → ∃ r, Chosen vt r ∧ v = agV (bnd r) := fun hL h1 => by
    rcases hL.2.2 with ⟨r, a, b⟩ | ⟨a, _⟩
    · rw [h1] at b; exact ⟨r, a, Option.some.inj b⟩
    · rw [h1] at a; cases a
  obtain ⟨r, cr, rfl⟩ := get hL h1
  obtain ⟨s, cs, rfl⟩ := get hM h2
  have lr : r ≤ R := by obtain ⟨x, _, _, hx, _⟩ := cr; exact (h.vr x r hx).2.1
  have ls : s ≤ R := by obtain ⟨x, _, _, hx, _⟩ := cs; exact (h.vr x s hx).2.1
  rcases Nat.le_total r s with q | q
  · rw [h.ch r cr s q ls]
  · rw [h.ch s cs r q lr]
end
end Go.Eng
