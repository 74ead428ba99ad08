/- Where ways meet: what is forgotten, what is kept. No program in sight. -/
import Derived.Test.YticacnankpaohaaEng11
namespace Go.Eng
set_option linter.unusedVariables false
set_option linter.unusedSimpArgs false

section
variable {C : Cfg} {T : Tab} {ρ : Env} {ids idsh : List Nat} {m : Nat}
structure Cnt.le (c d : Cnt) : Prop where
  i : c.i ≤ d.i
  b : c.b ≤ d.b
  v : c.v ≤ d.v
  n : c.n ≤ d.n
  a : c.a ≤ d.a
theorem blt_up {x a b : Nat} (h : Nat.blt x a = true) (hl : a ≤ b) : Nat.blt x b = true := Nat.ble_eq_true_of_le (Nat.le_trans (Nat.le_of_ble_eq_true h) hl)
theorem IE.fits_up {c d : Cnt} (h : c.le d) : ∀ {e : IE}, e.fits c = true → e.fits d = true
  | .lit _, _ => rfl
  | .var _, g => blt_up g h.i
  | .nat _, g => blt_up g h.n
  | .op _ _ a b, g => by simp only [IE.fits, Bool.and_eq_true] at *; exact ⟨IE.fits_up h g.1, IE.fits_up h g.2⟩
  | .conv _ a, g => by simp only [IE.fits] at *; exact IE.fits_up h g
  | .mx a b, g => by simp only [IE.fits, Bool.and_eq_true] at *; exact ⟨IE.fits_up h g.1, IE.fits_up h g.2⟩
  | .mn a b, g => by simp only [IE.fits, Bool.and_eq_true] at *; exact ⟨IE.fits_up h g.1, IE.fits_up h g.2⟩
theorem BE.fits_up {c d : Cnt} (h : c.le d) : ∀ {e : BE}, e.fits c = true → e.fits d = true
  | .lit _, _ => rfl
  | .var _, g => blt_up g h.b
  | .cmp _ a b, g => by simp only [BE.fits, Bool.and_eq_true] at *; exact ⟨IE.fits_up h g.1, IE.fits_up h g.2⟩
  | .eqb a b, g => by simp only [BE.fits, Bool.and_eq_true] at *; exact ⟨BE.fits_up h g.1, BE.fits_up h g.2⟩
  | .not a, g => by simp only [BE.fits] at *; exact BE.fits_up h g
  | .and a b, g => by simp only [BE.fits, Bool.and_eq_true] at *; exact ⟨BE.fits_up h g.1, BE.fits_up h g.2⟩
  | .anone _, g => blt_up g h.a
theorem NE.fits_up {c d : Cnt} (h : c.le d) : ∀ {e : NE}, e.fits c = true → e.fits d = true
  | .lit _, _ => rfl
  | .var _, g => blt_up g h.n
theorem LV.fits_up {c d : Cnt} (h : c.le d) : ∀ {l : LV}, l.fits c m = true → l.fits d m = true
  | .int _ _, g => IE.fits_up h g
  | .bool _, g => BE.fits_up h g
  | .val _, g => blt_up g h.v
  | .ptr .., g => g
  | .nilp, _ => rfl
  | .sl .., g => by simp only [LV.fits, Bool.and_eq_true] at *; exact ⟨⟨blt_up g.1.1 h.a, NE.fits_up h g.1.2⟩, NE.fits_up h g.2⟩
  | .nsl .., g => g
  | .nilsl, _ => rfl
  | .adr .., g => by simp only [LV.fits, Bool.and_eq_true] at *; exact ⟨blt_up g.1 h.a, IE.fits_up h g.2⟩
  | .pix .., g => by simp only [LV.fits, Bool.and_eq_true] at *; exact ⟨g.1, IE.fits_up h g.2⟩
  | .fnv .., g => g
  | .cst _, _ => rfl
theorem SV.fits_up {c d : Cnt} (h : c.le d) : ∀ {s : SV}, s.fits c m = true → s.fits d m = true
  | .lf _, g => LV.fits_up h g
  | .agg _, g => by simp only [SV.fits, List.all_eq_true] at *; exact fun l hl => LV.fits_up h (g l hl)
  | .tup _, g => by simp only [SV.fits, List.all_eq_true] at *; exact fun x hx l hl => LV.fits_up h (g x hx l hl)
  | .nxt _ _, g => by simp only [SV.fits, Bool.and_eq_true, List.all_eq_true] at *; exact ⟨BE.fits_up h g.1, fun x hx l hl => LV.fits_up h (g.2 x hx l hl)⟩
  | .dead, _ => rfl
theorem add_le (ρc : Env) (x : Vals) : ρc.cnt.le (ρc.add x).cnt := ⟨by simp [Env.cnt, Env.add], by simp [Env.cnt, Env.add], by simp [Env.cnt, Env.add], by simp [Env.cnt, Env.add], by simp [Env.cnt, Env.add]⟩
theorem add_app (ρc : Env) (x y : Vec) : ρc.add ((x.app y).den ρ ids) = (ρc.add (x.den ρ ids)).add (y.den ρ ids) := by
  simp [Env.add, Vec.app, Vec.den]
theorem vec_nil : Vec.nil.den ρ ids = Vals.nil := rfl
theorem leaf_take {ρc : Env} {k : K} {l' : LV} {v : Vec} (hi : idsh <+: ids) (hm : idsh.length = m) (h : takeL m k l' = some v) :
    (k.mk ρc.cnt).1.den (ρc.add (v.den ρ ids)) idsh = l'.den ρ ids ∧ (ρc.add (v.den ρ ids)).cnt = (k.mk ρc.cnt).2 ∧ (k.mk ρc.cnt).1.fits (k.mk ρc.cnt).2 m = true := by
  have g1 : ∀ {α : Type} (l : List α) (x d : α) (r : List α), (l ++ x :: r).getD l.length d = x := fun l x d r => by simp [List.getD]
  have b1 : ∀ n : Nat, Nat.blt n (n + 1) = true := fun n => Nat.ble_eq_true_of_le (Nat.le_refl _)
  have b2 : ∀ n : Nat, Nat.blt n (n + 2) = true := fun n => Nat.ble_eq_true_of_le (by omega)
  unfold takeL at h
  split at h
  · split at h
    · rename_i e; subst e
      cases h
      refine ⟨?_, ?_, ?_⟩
      · simp only [K.mk, LV.den, IE.den, Vec.den, Vec.nil, Env.add, Env.cnt, List.map_cons, List.map_nil]
        rw [g1]
      · simp [K.mk, Env.cnt, Env.add, Vec.den, Vec.nil]
      · simp [K.mk, LV.fits, IE.fits, b1]
    · cases h
  · cases h
    refine ⟨?_, ?_, ?_⟩
    · simp only [K.mk, LV.den, BE.den, Vec.den, Vec.nil, Env.add, Env.cnt, List.map_cons, List.map_nil]
      rw [g1]
    · simp [K.mk, Env.cnt, Env.add, Vec.den, Vec.nil]
    · simp [K.mk, LV.fits, BE.fits, b1]
  · split at h
    · cases h
      refine ⟨?_, ?_, ?_⟩
      · simp only [K.mk, Vec.den, Vec.nil, Env.add, Env.cnt, List.map_cons, List.map_nil, LV.den]
        rw [g1]
      · simp [K.mk, Env.cnt, Env.add, Vec.den, Vec.nil]
      · simp [K.mk, LV.fits, b1]
    · cases h
  · cases h
    refine ⟨?_, ?_, ?_⟩
    · simp only [K.mk, LV.den, NE.den, AE.den, Vec.den, Vec.nil, Env.add, Env.cnt, List.map_cons, List.map_nil]
      rw [g1, g1]
      congr 1
      simp [List.getD]
    · simp [K.mk, Env.cnt, Env.add, Vec.den, Vec.nil]
    · simp [K.mk, LV.fits, NE.fits, b1, b2]
  · cases h
    refine ⟨?_, ?_, ?_⟩
    · simp only [K.mk, LV.den, NE.den, AE.den, Vec.den, Vec.nil, Env.add, Env.cnt, List.map_cons, List.map_nil]
      rw [g1, g1]
      congr 1
      simp [List.getD]
    · simp [K.mk, Env.cnt, Env.add, Vec.den, Vec.nil]
    · simp [K.mk, LV.fits, NE.fits, b1, b2]
  · cases h
    refine ⟨?_, ?_, ?_⟩
    · simp only [K.mk, LV.den, NE.den, AE.den, Vec.den, Vec.nil, Env.add, Env.cnt, List.map_cons, List.map_nil]
      rw [g1, g1]
      congr 1
      simp [List.getD]
    · simp [K.mk, Env.cnt, Env.add, Vec.den, Vec.nil]
    · simp [K.mk, LV.fits, NE.fits, b1, b2]
  · split at h
    · rename_i hc
      obtain ⟨rfl, rfl, hb⟩ := hc
      cases h
      refine ⟨?_, ?_, ?_⟩
      · simp only [K.mk, LV.den]
        rw [idAt_pre hi (hm ▸ blt_lt hb)]
      · simp [K.mk, Env.cnt, Env.add, Vec.den, Vec.nil]
      · exact hb
    · cases h
  · cases h
theorem leaf_one {k : K} {l' : LV} {v : Vec} (h : takeL m k l' = some v) : ∀ l, l ∈ v.v → l = l' ∧ l.isOne = true := by
  unfold takeL at h
  split at h
  · split at h
    · cases h; intro l hl; cases hl
    · cases h
  · cases h; intro l hl; cases hl
  · split at h
    · rename_i h1; cases h; intro l hl; simp at hl; subst hl; exact ⟨rfl, h1⟩
    · cases h
  · cases h; intro l hl; cases hl
  · cases h; intro l hl; cases hl
  · cases h; intro l hl; cases hl
  · split at h
    · cases h; intro l hl; cases hl
    · cases h
  · cases h
theorem leaves_take (hi : idsh <+: ids) (hm : idsh.length = m) : ∀ {ks : List K} {ls : List LV} {v : Vec} {ρc : Env}, takeLs m ks ls = some v →
    cellsDen (ρc.add (v.den ρ ids)) idsh (mkKs ρc.cnt ks).1 = cellsDen ρ ids ls ∧ (ρc.add (v.den ρ ids)).cnt = (mkKs ρc.cnt ks).2 ∧ (mkKs ρc.cnt ks).1.all (LV.fits (mkKs ρc.cnt ks).2 m) = true ∧ ∀ l, l ∈ v.v → l ∈ ls ∧ l.isOne = true
  | [], [], v, ρc, h => by
    simp only [takeLs, Option.some.injEq] at h
    subst h
    exact ⟨rfl, by rw [vec_nil, Env.add_nil]; rfl, rfl, fun l hl => by cases hl⟩
  | k :: ks, l :: ls, v, ρc, h => by
    simp only [takeLs] at h
    split at h
    · rename_i x y h1 h2
      cases h
      obtain ⟨a1, a2, a3⟩ := leaf_take (ρ := ρ) (ρc := ρc) hi hm h1
      obtain ⟨b1, b2, b3, b4⟩ := leaves_take hi hm (ρc := ρc.add (x.den ρ ids)) h2
      rw [a2] at b1 b2 b3
      rw [add_app]
      have hup : (k.mk ρc.cnt).1.den ((ρc.add (x.den ρ ids)).add (y.den ρ ids)) idsh = (k.mk ρc.cnt).1.den (ρc.add (x.den ρ ids)) idsh := LV.den_add a2 (List.prefix_refl _) hm a3
      refine ⟨?_, b2, ?_, ?_⟩
      · simp only [mkKs, cellsDen, List.map_cons] at *
        rw [b1, hup, a1]
      · simp only [mkKs, List.all_cons, Bool.and_eq_true]
        refine ⟨?_, b3⟩
        rw [← b2]
        exact LV.fits_up (add_le _ _) (by rw [a2]; exact a3)
      · intro l0 hl
        simp only [Vec.app, List.mem_append] at hl
        rcases hl with hl | hl
        · obtain ⟨rfl, h3⟩ := leaf_one h1 l0 hl; exact ⟨by simp, h3⟩
        · obtain ⟨h3, h4⟩ := b4 l0 hl; exact ⟨by simp [h3], h4⟩
    · cases h
  | [], _ :: _, _, _, h => by simp [takeLs] at h
  | _ :: _, [], _, _, h => by simp [takeLs] at h

/-! ### Slots -/
theorem slots_hp : ∀ (l : List (Nat × K)) (st : St), (slotsNew st l).hp = st.hp ∧ (slotsNew st l).fr.length = st.fr.length
  | [], _ => ⟨rfl, rfl⟩
  | (s, k) :: r, st => by
    simp only [slotsNew]
    obtain ⟨h1, h2⟩ := slots_hp r { st with fr := st.fr.set s (.lf (k.mk st.c).1), c := (k.mk st.c).2 }
    exact ⟨h1, by rw [h2]; simp⟩
theorem slots_take (hi : idsh <+: ids) (hm : idsh.length = m) (st : St) : ∀ {sl : List (Nat × K)} {st1 : St} {v : Vec} {ρc : Env}, slotsTake m st sl = some v → ρc.cnt = st1.c →
    (ρc.add (v.den ρ ids)).cnt = (slotsNew st1 sl).c ∧ (∀ l, l ∈ v.v → l.isOne = true ∧ SV.lf l ∈ st.fr) ∧
    ∀ (j : Nat) (p : SV), (slotsNew st1 sl).fr[j]? = some p → (inSlots j sl = true ∧ ∃ l l', p = .lf l ∧ st.fr[j]? = some (.lf l') ∧ l.den (ρc.add (v.den ρ ids)) idsh = l'.den ρ ids ∧ l.fits (slotsNew st1 sl).c m = true) ∨ (inSlots j sl = false ∧ st1.fr[j]? = some p)
  | [], st1, v, ρc, h, hc => by
    simp only [slotsTake, Option.some.injEq] at h
    subst h
    exact ⟨by rw [vec_nil, Env.add_nil]; exact hc, fun l hl => (by cases hl), fun j p hp => .inr ⟨rfl, hp⟩⟩
  | (s, k) :: r, st1, v, ρc, h, hc => by
    simp only [slotsTake] at h
    split at h
    · rename_i l' hs
      split at h
      · rename_i x y h1 h2
        cases h
        obtain ⟨a1, a2, a3⟩ := leaf_take (ρ := ρ) (ρc := ρc) hi hm h1
        rw [hc] at a1 a2 a3
        obtain ⟨b1, b2, b3⟩ := slots_take hi hm st (ρc := ρc.add (x.den ρ ids)) (st1 := { st1 with fr := st1.fr.set s (.lf (k.mk st1.c).1), c := (k.mk st1.c).2 }) h2 a2
        rw [← add_app] at b1 b3
        refine ⟨b1, ?_, ?_⟩
        · intro l hl
          simp only [Vec.app, List.mem_append] at hl
          rcases hl with hl | hl
          · obtain ⟨rfl, h3⟩ := leaf_one h1 l hl; exact ⟨h3, List.mem_of_getElem? hs⟩
          · exact b2 l hl
        · intro j p hp
          rcases b3 j p hp with ⟨c1, c2⟩ | ⟨c1, c2⟩
          · exact .inl ⟨by simp [inSlots, c1], c2⟩
          · simp only [List.getElem?_set] at c2
            split at c2
            · rename_i e
              subst e
              split at c2
              · cases c2
                refine .inl ⟨by simp [inSlots], _, l', rfl, hs, ?_, ?_⟩
                · rw [add_app, ← a1]
                  exact LV.den_add a2 (List.prefix_refl _) hm a3
                · show LV.fits (slotsNew { st1 with fr := st1.fr.set s (.lf (k.mk st1.c).1), c := (k.mk st1.c).2 } r).c m _ = true
                  rw [← b1, add_app]
                  exact LV.fits_up (add_le _ _) (by rw [a2]; exact a3)
              · cases c2
            · rename_i e
              refine .inr ⟨?_, c2⟩
              simp only [inSlots, Bool.or_eq_false_iff]
              exact ⟨by simpa using e, c1⟩
      · cases h
    · cases h

/-! ### Blocks -/
theorem blks_fr (base : St) : ∀ (l : List Nat) (st : St), (blksNew base st l).fr = st.fr ∧ (blksNew base st l).hp.length = st.hp.length
  | [], _ => ⟨rfl, rfl⟩
  | n :: r, st => by
    simp only [blksNew]
    split
    · obtain ⟨h1, h2⟩ := blks_fr base r { st with hp := st.hp.set n (_, (mkKs st.c (blkKs base n)).1), c := (mkKs st.c (blkKs base n)).2 }
      exact ⟨h1, by rw [h2]; simp⟩
    · exact blks_fr base r st
theorem blks_take (hi : idsh <+: ids) (hm : idsh.length = m) (base st : St) (hb : base.hp.length = m) : ∀ {bl : List Nat} {st2 : St} {v : Vec} {ρc : Env}, blksTake base st bl = some v → ρc.cnt = st2.c → (∀ n, n ∈ bl → ∃ x, st2.hp[n]? = some x) →
    (ρc.add (v.den ρ ids)).cnt = (blksNew base st2 bl).c ∧ (∀ l, l ∈ v.v → l.isOne = true ∧ ∃ p, p ∈ st.hp ∧ l ∈ p.2) ∧
    ∀ (n ty : Nat) (cs : List LV), (blksNew base st2 bl).hp[n]? = some (ty, cs) → (n ∈ bl ∧ ∃ ty' cs', st.hp[n]? = some (ty', cs') ∧ cellsDen (ρc.add (v.den ρ ids)) idsh cs = cellsDen ρ ids cs' ∧ cs.all (LV.fits (blksNew base st2 bl).c m) = true ∧ ∃ cs0, st2.hp[n]? = some (ty, cs0)) ∨ (n ∉ bl ∧ st2.hp[n]? = some (ty, cs))
  | [], st2, v, ρc, h, hc, _ => by
    simp only [blksTake, Option.some.injEq] at h
    subst h
    exact ⟨by rw [vec_nil, Env.add_nil]; exact hc, fun l hl => (by cases hl), fun n ty cs hn => .inr ⟨by simp, hn⟩⟩
  | q :: r, st2, v, ρc, h, hc, hin => by
    simp only [blksTake] at h
    split at h
    · rename_i tq csq hq
      split at h
      · rename_i x y h1 h2
        cases h
        rw [hb] at h1
        obtain ⟨a1, a2, a3, a4⟩ := leaves_take (ρ := ρ) (ρc := ρc) hi hm h1
        rw [hc] at a1 a2 a3
        obtain ⟨⟨t0, cs0⟩, hx0⟩ := hin q (by simp)
        have hnew : blksNew base st2 (q :: r) = blksNew base { st2 with hp := st2.hp.set q (t0, (mkKs st2.c (blkKs base q)).1), c := (mkKs st2.c (blkKs base q)).2 } r := by
          simp only [blksNew, hx0]
        have hlt : q < st2.hp.length := by
          rcases Nat.lt_or_ge q st2.hp.length with g | g
          · exact g
          · rw [List.getElem?_eq_none g] at hx0; cases hx0
        obtain ⟨b1, b2, b3⟩ := blks_take hi hm base st hb (ρc := ρc.add (x.den ρ ids)) (st2 := { st2 with hp := st2.hp.set q (t0, (mkKs st2.c (blkKs base q)).1), c := (mkKs st2.c (blkKs base q)).2 }) h2 a2 (fun n hn => by
          obtain ⟨x, hx⟩ := hin n (by simp [hn])
          simp only [List.getElem?_set]
          split
          · exact ⟨_, rfl⟩
          · exact ⟨x, hx⟩)
        rw [← add_app] at b1 b3
        rw [hnew]
        refine ⟨b1, ?_, ?_⟩
        · intro l hl
          simp only [Vec.app, List.mem_append] at hl
          rcases hl with hl | hl
          · obtain ⟨h3, h4⟩ := a4 l hl; exact ⟨h4, _, List.mem_of_getElem? hq, h3⟩
          · exact b2 l hl
        · intro n ty cs hn
          rcases b3 n ty cs hn with ⟨c1, ty', cs', c2, c3, c4, cs1, c5⟩ | ⟨c1, c2⟩
          · refine .inl ⟨by simp [c1], ty', cs', c2, c3, c4, ?_⟩
            simp only [List.getElem?_set] at c5
            split at c5
            · rename_i e
              subst e
              cases c5
              exact ⟨cs0, hx0⟩
            · exact ⟨cs1, c5⟩
          · simp only [List.getElem?_set] at c2
            split at c2
            · rename_i e
              subst e
              simp only [Option.some.injEq, Prod.mk.injEq] at c2
              obtain ⟨rfl, rfl⟩ := c2
              refine .inl ⟨by simp, tq, csq, hq, ?_, ?_, cs0, hx0⟩
              · rw [add_app, ← a1]
                exact cellsDen_add a2 (List.prefix_refl _) hm a3
              · rw [← b1, add_app]
                simp only [List.all_eq_true] at *
                exact fun l hl => LV.fits_up (add_le _ _) (by rw [a2]; exact a3 l hl)
            · rename_i e
              exact .inr ⟨by simp only [List.mem_cons, not_or]; exact ⟨fun g => e g.symm, c1⟩, c2⟩
      · cases h
    · cases h
theorem forget_get : ∀ (ws : List Nat) (fr : List SV) (j : Nat) (p : SV), (forgetAll fr ws)[j]? = some p → p ≠ .dead → fr[j]? = some p
  | [], _, _, _, h, _ => h
  | d :: r, fr, j, p, h, hne => by
    have := forget_get r _ j p h hne
    simp only [List.getElem?_set] at this
    split at this
    · split at this
      · cases this; exact absurd rfl hne
      · cases this
    · exact this
theorem forget_len : ∀ (ws : List Nat) (fr : List SV), (forgetAll fr ws).length = fr.length
  | [], _ => rfl
  | d :: r, fr => by rw [forgetAll, forget_len r]; simp
theorem frSame_len (la : LAnn) : ∀ (j : Nat) (x p : List SV), frSame la j x p = true → x.length = p.length
  | _, [], [], _ => rfl
  | j, x :: r, p :: q, h => by
    simp only [frSame, Bool.and_eq_true] at h
    simp [frSame_len la (j + 1) r q h.2]
  | _, [], _ :: _, h => by simp [frSame] at h
  | _, _ :: _, [], h => by simp [frSame] at h
theorem frSame_get (la : LAnn) : ∀ (i : Nat) (x p : List SV), frSame la i x p = true → ∀ (j : Nat) (u : SV), p[j]? = some u → u ≠ .dead → inSlots (i + j) la.slots = false → ∃ y, x[j]? = some y ∧ y.same u = true
  | _, [], [], _, j, u, h, _, _ => by simp at h
  | i, x :: r, p :: q, h, j, u, hj, hne, hin => by
    simp only [frSame, Bool.and_eq_true] at h
    cases j with
    | zero =>
      simp only [List.getElem?_cons_zero, Option.some.injEq] at hj
      subst hj
      have h1 := h.1
      split at h1
      · exact absurd rfl hne
      · simp only [Nat.add_zero] at hin
        rw [hin, Bool.false_or] at h1
        exact ⟨x, rfl, h1⟩
    | succ j =>
      have := frSame_get la (i + 1) r q h.2 j u (by simpa using hj) hne (by rw [show i + 1 + j = i + (j + 1) by omega]; exact hin)
      simpa using this
  | _, [], _ :: _, h, _, _, _, _, _ => by simp [frSame] at h
  | _, _ :: _, [], h, _, _, _, _, _ => by simp [frSame] at h
theorem hpSame_get (la : LAnn) : ∀ (i : Nat) (x p : List (Nat × List LV)), hpSame la i x p = true → ∀ (j ty : Nat) (cs : List LV), p[j]? = some (ty, cs) → ∃ cs', x[j]? = some (ty, cs') ∧ (la.blks.contains (i + j) = true ∨ sameL cs' cs = true)
  | _, _, [], _, j, _, _, h => by simp at h
  | i, x :: r, p :: q, h, j, ty, cs, hj => by
    simp only [hpSame, Bool.and_eq_true, Bool.or_eq_true, beq_iff_eq] at h
    cases j with
    | zero =>
      simp only [List.getElem?_cons_zero, Option.some.injEq] at hj
      subst hj
      obtain ⟨x1, x2⟩ := x
      have h1 := h.1.1
      simp only at h1
      subst h1
      exact ⟨x2, rfl, by simpa using h.1.2⟩
    | succ j =>
      have := hpSame_get la (i + 1) r q h.2 j ty cs (by simpa using hj)
      rw [show i + 1 + j = i + (j + 1) by omega] at this
      simpa using this
  | _, [], _ :: _, h, _, _, _, _ => by simp [hpSame] at h
theorem sameT_den (ρ : Env) (ids : List Nat) : ∀ {x y : List (Bool × List LV)}, sameT x y = true → x.map (compDen ρ ids) = y.map (compDen ρ ids)
  | [], [], _ => rfl
  | (a1, a2) :: r, (b1, b2) :: s, h => by
    simp only [sameT, Bool.and_eq_true, beq_iff_eq] at h
    obtain ⟨⟨rfl, h2⟩, h3⟩ := h
    have e1 := sameL_den ρ ids h2
    have e2 := sameT_den ρ ids h3
    simp only [List.map_cons, e2, List.cons.injEq, and_true]
    cases a1 with
    | true => simp only [compDen, e1]
    | false =>
      cases a2 with
      | nil =>
        cases b2 with
        | nil => rfl
        | cons _ _ => simp [sameL] at h2
      | cons x a2 =>
        cases b2 with
        | nil => simp [sameL] at h2
        | cons y b2 =>
          simp only [cellsDen, List.map_cons, List.cons.injEq] at e1
          simp only [compDen, e1.1]
  | [], _ :: _, h => by simp [sameT] at h
  | _ :: _, [], h => by simp [sameT] at h
theorem SV.same_den (ρ : Env) (ids : List Nat) {x y : SV} (h : x.same y = true) : x.den ρ ids = y.den ρ ids := by
  unfold SV.same at h
  split at h
  · exact Eng.same_den ρ ids h
  · simp only [SV.den, sameL_den ρ ids h]
  · simp only [SV.den, sameT_den ρ ids h]
  · cases h
/-- What comes to the head is so as the head says, at the values that it brings. -/
theorem meet_ok {base st : St} {la : LAnn} {ws : List Nat} {es : Vec} {ρh : Env} {hx : HX} {a : Act} {w : World} (h : meet base (havoc base la ws) st la = some es) (hfit : base.fits = true) (hc : EnvOk ρh base.c)
    (hl : idsh.length = base.hp.length) (hi : idsh <+: ids) (hρ : ∃ x, ρ = ρh.add x) (hs : Sit C st ρ ids hx a w) (hx' : HX) (hok : HXok hx' w ids) :
    EnvOk (ρh.add (es.den ρ ids)) (havoc base la ws).c ∧ Sit C (havoc base la ws) (ρh.add (es.den ρ ids)) idsh hx' a w := by
  unfold meet at h
  split at h
  · rename_i hcond
    simp only [Bool.and_eq_true] at hcond
    obtain ⟨⟨⟨hfr, hhp⟩, hst⟩, hbl⟩ := hcond
    split at h
    · rename_i x y h1 h2
      cases h
      unfold havoc at *
      have hsl := slots_hp la.slots { base with fr := forgetAll base.fr ws }
      obtain ⟨a1, a2, a3⟩ := slots_take (ρ := ρ) (ρc := ρh) hi hl st (st1 := { base with fr := forgetAll base.fr ws }) h1 hc.cnt
      have hin : ∀ n, n ∈ la.blks → ∃ z, (slotsNew { base with fr := forgetAll base.fr ws } la.slots).hp[n]? = some z := fun n hn => by
        rw [hsl.1]
        have := blt_lt (List.all_eq_true.1 hbl n hn)
        exact ⟨_, List.getElem?_eq_getElem this⟩
      obtain ⟨b1, b2, b3⟩ := blks_take (ρ := ρ) (ρc := ρh.add (x.den ρ ids)) hi hl base st rfl (st2 := slotsNew { base with fr := forgetAll base.fr ws } la.slots) h2 a1 hin
      rw [← add_app] at b1 b3
      have hbf := blks_fr base la.blks (slotsNew { base with fr := forgetAll base.fr ws } la.slots)
      have hone : EnvOk (ρh.add ((x.app y).den ρ ids)) (blksNew base (slotsNew { base with fr := forgetAll base.fr ws } la.slots) la.blks).c := by
        refine ⟨b1, fun v hv => ?_⟩
        simp only [Env.add, List.mem_append] at hv
        rcases hv with hv | hv
        · exact hc.one v hv
        · simp only [Vec.den, Vec.app, List.map_append, List.mem_append, List.mem_map] at hv
          rcases hv with ⟨l, hl1, rfl⟩ | ⟨l, hl1, rfl⟩
          · obtain ⟨g1, g2⟩ := a2 l hl1
            unfold St.fits at hst
            simp only [Bool.and_eq_true] at hst
            exact one_cell hs.facts.cnt g1 (List.all_eq_true.1 hst.1 _ g2)
          · obtain ⟨g1, p, g2, g3⟩ := b2 l hl1
            unfold St.fits hpFits at hst
            simp only [Bool.and_eq_true] at hst
            exact one_cell hs.facts.cnt g1 (List.all_eq_true.1 (List.all_eq_true.1 hst.2 _ g2) _ g3)
      have hsub : ∀ id, id ∈ idsh → id ∈ ids := fun id hid => hi.subset hid
      have hidAt : ∀ n, n < idsh.length → idAt ids n = idAt idsh n := fun n hn => idAt_pre hi hn
      have hplen : (blksNew base (slotsNew { base with fr := forgetAll base.fr ws } la.slots) la.blks).hp.length = base.hp.length := by rw [hbf.2, hsl.1]
      refine ⟨hone, ⟨?_, ?_⟩⟩
      · refine ⟨by rw [hl]; exact hplen.symm, hs.facts.nod.sublist hi.sublist, ?_, fun id hid => hs.facts.own id (hsub id hid), hs.facts.chg, hok.1, fun b hb => ⟨(hok.2 b hb).1, fun hb2 => (hok.2 b hb).2 (hsub b hb2)⟩, hone⟩
        intro n ty cs hn
        have hnlt : n < idsh.length := by
          rw [hl, ← hplen]
          rcases Nat.lt_or_ge n (blksNew base (slotsNew { base with fr := forgetAll base.fr ws } la.slots) la.blks).hp.length with q | q
          · exact q
          · have hn' := hn
            simp only [St.mem] at hn'
            rw [List.getElem?_eq_none q] at hn'; cases hn'
        obtain ⟨cs2, g1, g2⟩ := hpSame_get la 0 _ _ hhp n ty cs hn
        have g3 := hs.facts.blk n ty cs2 g1
        rw [hidAt n hnlt] at g3
        rw [g3]
        congr 2
        congr 1
        rcases b3 n ty cs hn with ⟨_, ty', cs', c2, c3, _, _⟩ | ⟨c1, c2⟩
        · rw [c2] at g1
          simp only [Option.some.injEq, Prod.mk.injEq] at g1
          obtain ⟨_, rfl⟩ := g1
          exact c3.symm
        · rcases g2 with g2 | g2
          · simp only [Nat.zero_add] at g2
            exact absurd (by simpa using g2) c1
          · rw [hsl.1] at c2
            have hfc := fits_hp hfit c2
            obtain ⟨x0, rfl⟩ := hρ
            rw [sameL_den _ _ g2, cellsDen_add hc.cnt hi hl hfc, cellsDen_add hc.cnt (List.prefix_refl _) hl hfc]
      · have hlen : a.tmps.size = (blksNew base (slotsNew { base with fr := forgetAll base.fr ws } la.slots) la.blks).fr.length := by
          rw [hs.act.size, frSame_len la 0 _ _ hfr]
        refine ⟨hs.act.defers, hlen, fun j p hj hne => ?_⟩
        have hj' := hj
        rw [hbf.1] at hj'
        rcases a3 j p hj' with ⟨_, l, l', rfl, c2, c3, c4⟩ | ⟨c1, c2⟩
        · rw [hs.act.at_ j _ c2 (by simp)]
          simp only [SV.den]
          rw [← c3, add_app]
          congr 1
          exact (LV.den_add a1 (List.prefix_refl _) hl c4).symm
        · obtain ⟨q, g1, g2⟩ := frSame_get la 0 _ _ hfr j p hj hne (by simpa using c1)
          have hq : q ≠ .dead := by
            intro e; subst e; cases p <;> simp [SV.same] at g2
          rw [hs.act.at_ j q g1 hq, SV.same_den _ _ g2]
          have hbase := forget_get ws base.fr j p c2 hne
          unfold St.fits at hfit
          simp only [Bool.and_eq_true] at hfit
          have hfp := List.all_eq_true.1 hfit.1 p (List.mem_of_getElem? hbase)
          obtain ⟨x0, rfl⟩ := hρ
          rw [SV.den_add hc.cnt hi hl hfp, SV.den_add hc.cnt (List.prefix_refl _) hl hfp]
    · cases h
  · cases h
end
end Go.Eng
