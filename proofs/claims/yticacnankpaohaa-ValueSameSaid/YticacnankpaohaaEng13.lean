/- The symbolic run is sound. No program in sight. -/
import Derived.Test.YticacnankpaohaaEng12
namespace Go.Eng
set_option linter.unusedVariables false
set_option linter.unusedSimpArgs false

theorem wp_loop_ix {P : Program} {Q : Exit → Act → World → Prop} {a : Act} {w : World} {c : Code} (I : Nat → Act → World → Prop) (n0 : Nat) (h₀ : I n0 a w)
    (round : ∀ n a w, I n a w → c.wp P (Exit.then (fun a' w' => ∃ m, m < n ∧ I m a' w') Q) a w) : (Code.loop c).wp P Q a w := by
  intro b k cs
  have key : ∀ n a w, I n a w → ∃ e a' w', Q e a' w' ∧ Arrives P (lone (b.at a (.code c :: .inLoop c :: k)) cs w) b k cs e a' w' := by
    intro n
    induction n using Nat.strongRecOn with
    | _ n ih =>
      intro a w hI
      obtain ⟨e, a₁, w₁, hq, harr⟩ := round n a w hI b (.inLoop c :: k) cs
      cases e with
      | normal =>
        obtain ⟨m, hlt, hI₁⟩ := hq
        obtain ⟨e₂, a₂, w₂, hq₂, harr₂⟩ := ih m hlt a₁ w₁ hI₁
        exact ⟨e₂, a₂, w₂, hq₂, .of_steps (Steps.trans harr (.one step_inLoop)) harr₂⟩
      | exit id => exact ⟨_, a₁, w₁, hq, .pass (x := .inLoop c) rfl (fun _ _ => .inl (by simp)) harr⟩
      | goto l => exact ⟨_, a₁, w₁, hq, .pass (x := .inLoop c) rfl (fun _ _ => .inl (by simp)) harr⟩
      | ret => exact ⟨_, a₁, w₁, hq, .pass (x := .inLoop c) rfl (fun _ _ => .inl (by simp)) harr⟩
      | panic ch => exact ⟨_, a₁, w₁, hq, .pass (x := .inLoop c) rfl (fun _ _ => .inl (by simp)) harr⟩
      | outgrown => exact ⟨_, a₁, w₁, hq, .pass (x := .inLoop c) rfl (fun _ _ => .inl (by simp)) harr⟩
  obtain ⟨e, a', w', hq, harr⟩ := key _ a w h₀
  exact ⟨e, a', w', hq, .of_steps (.one step_loop) harr⟩

/-- A loop, m rounds of it. -/
def LW (P : Program) (c : Code) (Q : Exit → Act → World → Prop) : Nat → Act → World → Prop
  | 0, _, _ => False
  | m + 1, a, w => c.wp P (Exit.then (LW P c Q m) Q) a w
theorem LW.wp {P : Program} {c : Code} {Q : Exit → Act → World → Prop} {m : Nat} {a : Act} {w : World} (h : LW P c Q m a w) : (Code.loop c).wp P Q a w := by
  refine wp_loop_ix (fun n a w => LW P c Q n a w) m h ?_
  intro n a w hn
  cases n with
  | zero => exact hn.elim
  | succ n =>
    refine Code.wp_mono (fun e a w he => ?_) hn
    cases e <;> first | exact ⟨n, Nat.lt_succ_self n, he⟩ | exact he
/-- As Q; by a jump to a label of the scope: from there on, at most so many times. -/
def JQ (P : Program) (c : Code) (Q : Exit → Act → World → Prop) : Nat → Exit → Act → World → Prop
  | 0, .goto _, _, _ => False
  | m + 1, .goto l, a, w => ∃ rest, findLabel c l = some rest ∧ rest.wp P (JQ P c Q m) a w
  | _, e, a, w => Q e a w
theorem JQ.wp {P : Program} {c : Code} {Q : Exit → Act → World → Prop} {m : Nat} {a : Act} {w : World} (h : c.wp P (JQ P c Q m) a w) : (Code.scope c).wp P Q a w := by
  intro b k cs
  have key : ∀ (m : Nat) (x : Code) (a : Act) (w : World), x.wp P (JQ P c Q m) a w → ∃ e a' w', Q e a' w' ∧ Arrives P (lone (b.at a (.code x :: .inScope c :: k)) cs w) b k cs e a' w' := by
    intro m
    induction m with
    | zero =>
      intro x a w h
      obtain ⟨e, a₁, w₁, hq, harr⟩ := h b (.inScope c :: k) cs
      cases e with
      | normal => exact ⟨.normal, a₁, w₁, hq, Steps.trans harr (.one step_inScope)⟩
      | exit id => exact ⟨.exit id, a₁, w₁, hq, fun k' hk => harr k' (by simp [exitTo, hk])⟩
      | goto l => exact hq.elim
      | ret => exact ⟨_, a₁, w₁, hq, harr⟩
      | panic ch => exact ⟨_, a₁, w₁, hq, harr⟩
      | outgrown => exact ⟨_, a₁, w₁, hq, harr⟩
    | succ m ih =>
      intro x a w h
      obtain ⟨e, a₁, w₁, hq, harr⟩ := h b (.inScope c :: k) cs
      cases e with
      | normal => exact ⟨.normal, a₁, w₁, hq, Steps.trans harr (.one step_inScope)⟩
      | exit id => exact ⟨.exit id, a₁, w₁, hq, fun k' hk => harr k' (by simp [exitTo, hk])⟩
      | goto l =>
        obtain ⟨rest, hf, hr⟩ := hq
        obtain ⟨e₂, a₂, w₂, hq₂, harr₂⟩ := ih rest a₁ w₁ hr
        have hg : gotoIn l (.inScope c :: k) = some (.code rest :: .inScope c :: k) := by simp [gotoIn, hf]
        exact ⟨e₂, a₂, w₂, hq₂, .of_steps (harr _ hg) harr₂⟩
      | ret => exact ⟨_, a₁, w₁, hq, harr⟩
      | panic ch => exact ⟨_, a₁, w₁, hq, harr⟩
      | outgrown => exact ⟨_, a₁, w₁, hq, harr⟩
  obtain ⟨e, a', w', hq, harr⟩ := key m c a w h
  exact ⟨e, a', w', hq, .of_steps (.one step_scope) harr⟩
def Ex.to : Ex → Exit
  | .normal => .normal
  | .exit id => .exit id
  | .ret => .ret
  | .goto l => .goto l
section
variable {C : Cfg} {T : Tab}
/-- What is to be shown of what follows. -/
def Goes (C : Cfg) (ks : List Nat) (k : Ex → St → Tree) (ρ0 : Env) (ids0 : List Nat) (L : Stack) (Q : Exit → Act → World → Prop) : Prop :=
  ∀ e st' ρ' pre' ids' hx' a' w' L', (∀ j, j ∈ ks → lkup j L' = lkup j L) → (k e st').holds C ρ' pre' hx' L' → pre' <+: ids' → Sit C st' ρ' ids' hx' a' w' → ids0 <+: ids' → (∃ x, ρ' = ρ0.add x) → Q e.to a' w'
theorem Goes.up {ks : List Nat} {k : Ex → St → Tree} {ρ0 : Env} {ids0 : List Nat} {L : Stack} {Q : Exit → Act → World → Prop} (h : Goes C ks k ρ0 ids0 L Q) {ρ1 : Env} {ids1 : List Nat} (hi : ids0 <+: ids1) (hρ : ∃ x, ρ1 = ρ0.add x) : Goes C ks k ρ1 ids1 L Q :=
  fun e st' ρ' pre' ids' hx' a' w' L' hL hh hp hs hi' hρ' => h e st' ρ' pre' ids' hx' a' w' L' hL hh hp hs (hi.trans hi') (by
    obtain ⟨x, rfl⟩ := hρ
    obtain ⟨y, rfl⟩ := hρ'
    exact Env.add_add ρ0 x y)
theorem refl_add (ρ : Env) : ∃ x, ρ = ρ.add x := ⟨Vals.nil, (Env.add_nil ρ).symm⟩
theorem lkup_cons_ne {α : Type} {j key : Nat} {x : α} {L : List (Nat × α)} (h : key ≠ j) : lkup j ((key, x) :: L) = lkup j L := by
  simp only [lkup, if_neg h]
theorem run_ok (hT : TabOk C.P T) : ∀ (n : Nat) (ks : List Nat) (c : Code) (st : St) (k : Ex → St → Tree) (ρ : Env) (pre ids : List Nat) (hx : HX) (L : Stack) (a : Act) (w : World) (Q : Exit → Act → World → Prop),
    (run T n ks c st k).holds C ρ pre hx L → pre <+: ids → Sit C st ρ ids hx a w → Goes C ks k ρ ids L Q → c.wp C.P Q a w
  | 0, _, _, _, _, _, _, _, _, _, _, _, _, h, _, _, _ => by simp only [run] at h; exact h.elim
  | n + 1, ks, c, st, k, ρ, pre, ids, hx, L, a, w, Q, h, hp, hs, hk => by
    have here : ∀ e : Ex, (k e st).holds C ρ pre hx L → Q e.to a w := fun e hh => hk e st ρ pre ids hx a w L (fun _ _ => rfl) hh hp hs (List.prefix_refl _) (refl_add ρ)
    unfold run at h
    split at h
    · exact wp_skip (here .normal h)
    · exact wp_label (here .normal h)
    · rename_i id ops draw
      split at h
      · rename_i hd
        subst hd
        split at h
        · rename_i hcond
          simp only [Bool.and_eq_true] at hcond
          have hpost : ∀ e a w, onlyNormal Q e a w → Q e a w := fun e a w hh => by
            cases e <;> first | exact hh | exact hh.elim
          refine Code.wp_mono hpost (wp_region_held (S := Stay ((lkup id T.ann.wr).getD (autoWr T ops st)) st.hp ρ ids) hT.mixed ?_)
          refine runD_ok (Q := Q) hT hcond.2 hcond.1 hs.facts.cnt.cnt hs.facts.len (fun st' ρ' pre' ids' hx' a' w' hh hp' hs' hi' hρ' => hk .normal st' ρ' pre' ids' hx' a' w' L (fun _ _ => rfl) hh hp' hs' hi' hρ') 400 _ st ρ pre ids hx a _ ops.size h hp ?_ (List.prefix_refl _) (refl_add ρ) ?_ ?_
          · exact ⟨hs.facts.cells_at rfl rfl rfl rfl, hs.act⟩
          · exact fun n ty cs _ hn => ⟨cs, hn, fun _ _ => rfl⟩
          · unfold unl
            have := List.countP_le_length (p := fun b => !b) (l := (Array.replicate ops.size false).toList)
            simpa using this
        · exact h.elim
      · rename_i hd
        have hd' : draw = false := by simpa using hd
        subst hd'
        refine wp_region_list (runOps_ok hT (ρ0 := ρ) (ids0 := ids) (fun st' ρ' pre' ids' hx' a' w' hh hp' hs' hi' hρ' => hk .normal st' ρ' pre' ids' hx' a' w' L (fun _ _ => rfl) hh hp' hs' hi' hρ') 400 ops ops.toList st ρ pre ids hx a w h hp hs (List.prefix_refl _) (refl_add ρ))
    · rename_i x y
      split at h
      · refine wp_seq (run_ok hT n ks x st _ ρ pre ids hx L a w _ h hp hs ?_)
        intro e st' ρ' pre' ids' hx' a' w' L' hL hh hp' hs' hi' hρ'
        cases e with
        | normal =>
          exact run_ok hT n ks y st' k ρ' pre' ids' hx' L' a' w' Q hh hp' hs' (fun e2 st2 ρ2 pre2 ids2 hx2 a2 w2 L2 hL2 hh2 hp2 hs2 hi2 hρ2 =>
            (hk.up hi' hρ') e2 st2 ρ2 pre2 ids2 hx2 a2 w2 L2 (fun j hj => (hL2 j hj).trans (hL j hj)) hh2 hp2 hs2 hi2 hρ2)
        | exit j => exact hk (.exit j) st' ρ' pre' ids' hx' a' w' L' hL hh hp' hs' hi' hρ'
        | ret => exact hk .ret st' ρ' pre' ids' hx' a' w' L' hL hh hp' hs' hi' hρ'
        | goto l => exact hk (.goto l) st' ρ' pre' ids' hx' a' w' L' hL hh hp' hs' hi' hρ'
      · rename_i key la _
        split at h
        · rename_i hcond
          simp only [Bool.and_eq_true, Bool.not_eq_true'] at hcond
          obtain ⟨⟨_, hfit⟩, hkey⟩ := hcond
          obtain ⟨I, hA, hB⟩ := h
          have hne : ∀ j, j ∈ ks → key ≠ j := fun j hj e => by subst e; simp [hj] at hkey
          refine wp_seq (run_ok hT n (key :: ks) x st _ ρ pre ids hx ((key, I) :: L) a w _ hA hp hs ?_)
          intro e st' ρ' pre' ids' hx' a' w' L' hL hh hp' hs' hi' hρ'
          have hLk : ∀ j, j ∈ ks → lkup j L' = lkup j L := fun j hj => (hL j (by simp [hj])).trans (lkup_cons_ne (hne j hj))
          cases e with
          | normal =>
            simp only at hh
            split at hh
            · rename_i es hes
              obtain ⟨hx2, hok, I2, hI2, hI3⟩ := hh ids' w' hp' hs'.facts
              rw [hL key (by simp)] at hI2
              simp only [lkup, if_true, Option.some.injEq] at hI2
              subst hI2
              obtain ⟨hcnt, hs2⟩ := meet_ok hes hfit hs.facts.cnt hs.facts.len hi' hρ' hs' hx2 hok
              exact run_ok hT n ks y (havoc st la (writes x)) k (ρ.add (es.den ρ' ids')) pre ids hx2 L a' w' Q (hB _ hx2 hcnt hI3) hp hs2 (hk.up (List.prefix_refl _) ⟨_, rfl⟩)
            · exact hh.elim
          | exit j => exact hk (.exit j) st' ρ' pre' ids' hx' a' w' L' hLk hh hp' hs' hi' hρ'
          | ret => exact hk .ret st' ρ' pre' ids' hx' a' w' L' hLk hh hp' hs' hi' hρ'
          | goto l => exact hk (.goto l) st' ρ' pre' ids' hx' a' w' L' hLk hh hp' hs' hi' hρ'
        · exact h.elim
    · rename_i x y z
      split at h
      · rename_i r hr
        have h1 := ev_ok hs.act (evL_ev hr)
        have h2 : a.eval x = .bool r := h1
        refine wp_cond h2 ?_
        have := run_ok hT n ks (if r then y else z) st k ρ pre ids hx L a w Q h hp hs hk
        exact this
      · rename_i b _ hr
        have h1 := ev_ok hs.act (evL_ev hr)
        have h2 : a.eval x = .bool (b.den ρ) := h1
        refine wp_cond h2 ?_
        cases hd : b.den ρ with
        | true => exact run_ok hT n ks y (st.assume b true) k ρ pre ids hx L a w Q (h.1 hd) hp ⟨hs.facts, hs.act.assume hd⟩ hk
        | false => exact run_ok hT n ks z (st.assume b false) k ρ pre ids hx L a w Q (h.2 hd) hp ⟨hs.facts, hs.act.assume hd⟩ hk
      · exact h.elim
    · rename_i id x
      refine wp_block (run_ok hT n ks x st _ ρ pre ids hx L a w _ h hp hs ?_)
      intro e st' ρ' pre' ids' hx' a' w' L' hL hh hp' hs' hi' hρ'
      cases e with
      | normal => exact hk .normal st' ρ' pre' ids' hx' a' w' L' hL hh hp' hs' hi' hρ'
      | exit j =>
        simp only at hh
        show (if j = id then Q .normal a' w' else Q (.exit j) a' w')
        split at hh
        · rename_i e; rw [if_pos e]; exact hk .normal st' ρ' pre' ids' hx' a' w' L' hL hh hp' hs' hi' hρ'
        · rename_i e; rw [if_neg e]; exact hk (.exit j) st' ρ' pre' ids' hx' a' w' L' hL hh hp' hs' hi' hρ'
      | ret => exact hk .ret st' ρ' pre' ids' hx' a' w' L' hL hh hp' hs' hi' hρ'
      | goto l => exact hk (.goto l) st' ρ' pre' ids' hx' a' w' L' hL hh hp' hs' hi' hρ'
    · rename_i x
      split at h
      · split at h
        · have key : ∀ (m : Nat) (st : St) (ρ' : Env) (pre' ids' : List Nat) (hx' : HX) (L' : Stack) (a' : Act) (w' : World),
              (iter (fun st next => run T n ks x st fun e st' => match e with | .normal => next st' | e => k e st') m st).holds C ρ' pre' hx' L' → pre' <+: ids' → Sit C st ρ' ids' hx' a' w' → ids <+: ids' → (∃ z, ρ' = ρ.add z) → (∀ j, j ∈ ks → lkup j L' = lkup j L) → LW C.P x Q m a' w' := by
            intro m
            induction m with
            | zero => intro st ρ' pre' ids' hx' L' a' w' h' _ _ _ _ _; exact h'.elim
            | succ m ih =>
              intro st ρ' pre' ids' hx' L' a' w' h' hp' hs' hi' hρ' hL'
              refine run_ok hT n ks x st _ ρ' pre' ids' hx' L' a' w' _ h' hp' hs' ?_
              intro e st2 ρ2 pre2 ids2 hx2 a2 w2 L2 hL2 hh2 hp2 hs2 hi2 hρ2
              have hρ3 : ∃ z, ρ2 = ρ.add z := by
                obtain ⟨y, rfl⟩ := hρ'
                obtain ⟨z, rfl⟩ := hρ2
                exact Env.add_add ρ y z
              have hL3 : ∀ j, j ∈ ks → lkup j L2 = lkup j L := fun j hj => (hL2 j hj).trans (hL' j hj)
              cases e with
              | normal => exact ih st2 ρ2 pre2 ids2 hx2 L2 a2 w2 hh2 hp2 hs2 (hi'.trans hi2) hρ3 hL3
              | exit j => exact hk (.exit j) st2 ρ2 pre2 ids2 hx2 a2 w2 L2 hL3 hh2 hp2 hs2 (hi'.trans hi2) hρ3
              | ret => exact hk .ret st2 ρ2 pre2 ids2 hx2 a2 w2 L2 hL3 hh2 hp2 hs2 (hi'.trans hi2) hρ3
              | goto l => exact hk (.goto l) st2 ρ2 pre2 ids2 hx2 a2 w2 L2 hL3 hh2 hp2 hs2 (hi'.trans hi2) hρ3
          exact (key T.ann.rounds st ρ pre ids hx L a w h hp hs (List.prefix_refl _) (refl_add ρ) (fun _ _ => rfl)).wp
        · exact h.elim
      · rename_i key la _
        split at h
        · rename_i hcond
          simp only [Bool.and_eq_true, Bool.not_eq_true'] at hcond
          obtain ⟨⟨_, hfit⟩, hkey⟩ := hcond
          have hne : ∀ j, j ∈ ks → key ≠ j := fun j hj e => by subst e; simp [hj] at hkey
          simp only at h
          split at h
          · exact h.elim
          · rename_i es0 hes0
            obtain ⟨I, h0, hround⟩ := h
            obtain ⟨hx0, n0, hok0, hI0⟩ := h0 ids w hp hs.facts
            obtain ⟨hcnt0, hs0⟩ := meet_ok hes0 hfit hs.facts.cnt hs.facts.len (List.prefix_refl _) (refl_add ρ) hs hx0 hok0
            refine wp_loop_ix (fun m a' w' => ∃ vs hx', EnvOk (ρ.add vs) (havoc st la (writes x)).c ∧ I vs hx' m ∧ Sit C (havoc st la (writes x)) (ρ.add vs) ids hx' a' w') n0 ⟨_, hx0, hcnt0, hI0, hs0⟩ ?_
            rintro m a1 w1 ⟨vs, hx1, hcnt1, hI1, hs1⟩
            refine run_ok hT n (key :: ks) x (havoc st la (writes x)) _ (ρ.add vs) pre ids hx1 _ a1 w1 _ (hround vs hx1 m hcnt1 hI1) hp hs1 ?_
            intro e st' ρ' pre' ids' hx' a' w' L' hL hh hp' hs' hi' hρ'
            have hLk : ∀ j, j ∈ ks → lkup j L' = lkup j L := fun j hj => (hL j (by simp [hj])).trans (lkup_cons_ne (hne j hj))
            have hρ2 : ∃ z, ρ' = ρ.add z := by
              obtain ⟨y, rfl⟩ := hρ'
              exact Env.add_add ρ vs y
            cases e with
            | normal =>
              simp only at hh
              split at hh
              · rename_i es hes
                obtain ⟨hx2, hok, I2, hI2, hI3⟩ := hh ids' w' hp' hs'.facts
                rw [hL key (by simp)] at hI2
                simp only [lkup, if_true, Option.some.injEq] at hI2
                subst hI2
                obtain ⟨n2, hlt, hI4⟩ := hI3
                obtain ⟨hcnt, hs2⟩ := meet_ok hes hfit hs.facts.cnt hs.facts.len hi' hρ2 hs' hx2 hok
                exact ⟨n2, hlt, _, hx2, hcnt, hI4, hs2⟩
              · exact hh.elim
            | exit j => exact hk (.exit j) st' ρ' pre' ids' hx' a' w' L' hLk hh hp' hs' hi' hρ2
            | ret => exact hk .ret st' ρ' pre' ids' hx' a' w' L' hLk hh hp' hs' hi' hρ2
            | goto l => exact hk (.goto l) st' ρ' pre' ids' hx' a' w' L' hLk hh hp' hs' hi' hρ2
        · exact h.elim
    · exact wp_exit (here (.exit _) h)
    · exact wp_ret (here .ret h)
    · rename_i x
      have key : ∀ (m : Nat), Goes C ks (jumps (fun l st' k' => match findLabel x l with | some rest => run T n ks rest st' k' | none => .fail "label" l) k m) ρ ids L (JQ C.P x Q m) := by
        intro m
        induction m with
        | zero =>
          intro e st' ρ' pre' ids' hx' a' w' L' hL hh hp' hs' hi' hρ'
          cases e with
          | normal => exact hk .normal st' ρ' pre' ids' hx' a' w' L' hL hh hp' hs' hi' hρ'
          | exit j => exact hk (.exit j) st' ρ' pre' ids' hx' a' w' L' hL hh hp' hs' hi' hρ'
          | ret => exact hk .ret st' ρ' pre' ids' hx' a' w' L' hL hh hp' hs' hi' hρ'
          | goto l => exact hh.elim
        | succ m ih =>
          intro e st' ρ' pre' ids' hx' a' w' L' hL hh hp' hs' hi' hρ'
          cases e with
          | normal => exact hk .normal st' ρ' pre' ids' hx' a' w' L' hL hh hp' hs' hi' hρ'
          | exit j => exact hk (.exit j) st' ρ' pre' ids' hx' a' w' L' hL hh hp' hs' hi' hρ'
          | ret => exact hk .ret st' ρ' pre' ids' hx' a' w' L' hL hh hp' hs' hi' hρ'
          | goto l =>
            simp only [jumps] at hh
            split at hh
            · rename_i rest hf
              refine ⟨rest, hf, run_ok hT n ks rest st' _ ρ' pre' ids' hx' L' a' w' _ hh hp' hs' ?_⟩
              intro e2 st2 ρ2 pre2 ids2 hx2 a2 w2 L2 hL2 hh2 hp2 hs2 hi2 hρ2
              exact (ih.up hi' hρ') e2 st2 ρ2 pre2 ids2 hx2 a2 w2 L2 (fun j hj => (hL2 j hj).trans (hL j hj)) hh2 hp2 hs2 hi2 hρ2
            · exact hh.elim
      exact JQ.wp (m := 3) (run_ok hT n ks x st _ ρ pre ids hx L a w _ h hp hs (key 3))
    · exact wp_goto (here (.goto _) h)
    · exact h.elim
end
end Go.Eng
