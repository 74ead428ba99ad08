/- The reference's reader of layer 6, told of by places. -/
import Derived.Test.YticacnankpaohaaQv3
import Derived.Test.YticacnankpaohaaVL3
namespace Go.Proofs.Yticacnankpaohaa
open Go.ChangeShapes Go.WideShapes Go.ChangeAt Go.RowKit Go.Syn Go.Eng
set_option linter.unusedVariables false
set_option linter.unusedSimpArgs false
set_option maxRecDepth 100000
/-- The bytes that are read, and where they lie. -/
structure Qb (w : World) (a : Option Addr) (bs : List Int) : Prop where
  mem : Cells w a (bcells bs)
  byt : Byt bs
  len : bs.length ≤ 140737488355328
theorem cl_keep {w w' : World} {a : Option Addr} {xs : List Value} (h : Cells w a xs) (hb : ∀ k, k < w.heap.size → w'.heap[k]? = w.heap[k]?) : Cells w' a xs := (HX.cl a xs).loc w w' h fun k hk => hb k (cl_sep h k hk)
theorem Qb.keep {w w' : World} {a : Option Addr} {bs : List Int} (h : Qb w a bs) (hb : ∀ k, k < w.heap.size → w'.heap[k]? = w.heap[k]?) : Qb w' a bs := ⟨cl_keep h.mem hb, h.byt, h.len⟩
/-- A reader at a place. -/
def qR (bs : List Int) (a' : Option Addr) (c' : Nat) (p : Nat × Int) : Value := .agg #[.slice a' (bs.drop p.1).length c', .int .i64 p.2]
def AtP (bs : List Int) (a a' : Option Addr) (c' : Nat) (p : Nat × Int) : Prop := p.1 ≤ bs.length ∧ Left a bs a' (bs.drop p.1) c'
theorem AtP.start {bs : List Int} {a : Option Addr} {c : Nat} (h : bs.length ≤ c) (bad : Int) : AtP bs a a c (0, bad) := ⟨Nat.zero_le _, Left.refl h⟩
theorem qnumP {w : World} {bs : List Int} {a a' : Option Addr} {c' : Nat} {p : Nat × Int} (H : Qb w a bs) (hA : AtP bs a a' c' p) : Calls Try.prog 62 #[qR bs a' c' p] w (fun e w' => ∃ a2 c2, e = .returned (.tuple #[qR bs a2 c2 (stN bs p), .int .u64 (unN bs p : Int)]) ∧ AtP bs a a2 c2 (stN bs p) ∧ Below w.heap.size w w') := by
  refine (qnum_any a' c' (bs.drop p.1) p.2 w (hA.2.1 w H.mem) (fun b q => H.byt b (List.mem_of_mem_drop q)) (by rw [List.length_drop]; have := H.len; omega) hA.2.2.1).mono ?_
  rintro e w' ⟨a2, c2, rfl, hL, hb⟩
  have e1 : bs.drop (stN bs p).1 = (readN (bs.drop p.1) p.2).1 := ixN_drop hA.1 p.2
  refine ⟨a2, c2, ?_, ⟨stN_le _ _, ?_⟩, hb⟩
  · unfold qV qR
    rw [e1]; rfl
  · rw [e1]; exact hA.2.trans hL
section
variable {C : Cfg} {ρ : Env} {pre : List Nat} {hx : HX} {L : Stack} {m m' : Mem} {args : List SV} {r : SV} {t : Tree}
/-- A reading call of the reference. -/
theorem node_q {f : Nat} {bs : List Int} {a : Option Addr} {p' : Nat × Int} {V : Value → Value} (AS : Array Value) (vs : Option Addr → Nat → Vals) (hargs : ∀ ids, (args.map (SV.den ρ ids)).toArray = AS) (hhp : m'.hp = m.hp) (hfit : hpFits m.c m.hp.length m.hp = true) (hc : ∀ a2 c2, (ρ.add (vs a2 c2)).cnt = m'.c) (h1 : ∀ a2 c2 v, v ∈ (vs a2 c2).v → v.oneCell' = true)
    (hr : ∀ a2 c2 ids, r.den (ρ.add (vs a2 c2)) ids = V (qR bs a2 c2 p'))
    (hcall : ∀ ids w, pre <+: ids → Facts C m ρ ids hx w → Calls C.P f AS w (fun e w' => ∃ a2 c2, e = .returned (V (qR bs a2 c2 p')) ∧ AtP bs a a2 c2 p' ∧ Below w.heap.size w w'))
    (h : ∀ a2 c2, AtP bs a a2 c2 p' → t.holds C (ρ.add (vs a2 c2)) pre hx L) : (Tree.call f args m r m' t).holds C ρ pre hx L := by
  refine node_pures (fun u => ∃ a2 c2, AtP bs a a2 c2 p' ∧ u = vs a2 c2) hhp hfit ?_ (fun ids w hp hf => ?_) ?_
  · rintro u ⟨a2, c2, _, rfl⟩
    exact ⟨hc _ _, h1 _ _⟩
  · rw [hargs]
    refine (hcall ids w hp hf).mono ?_
    rintro e w' ⟨a2, c2, rfl, hA, hb⟩
    exact ⟨_, ⟨a2, c2, hA, rfl⟩, by rw [hr], hb⟩
  · rintro u ⟨a2, c2, hA, rfl⟩
    exact h a2 c2 hA
end
theorem facts_old {C : Cfg} {m : Mem} {ρ : Env} {ids : List Nat} {hx : HX} {w' : World} (hM : ∀ k, ¬ C.M k) (hf : Facts C m ρ ids hx w') : ∀ k, k < C.W.heap.size → w'.heap[k]? = C.W.heap[k]? := fun k hk => hf.chg.block k hk (hM k)
theorem qcountP {w : World} {bs : List Int} {a a' : Option Addr} {c' : Nat} {p : Nat × Int} (most : Int) (hm : I64 most) (H : Qb w a bs) (hA : AtP bs a a' c' p) : Calls Try.prog 55 #[qR bs a' c' p, .int .i64 most] w (fun e w' => ∃ a2 c2, e = .returned (.tuple #[qR bs a2 c2 (stC most bs p), .int .i64 (vaC most bs p : Int)]) ∧ AtP bs a a2 c2 (stC most bs p) ∧ Below w.heap.size w w') := by
  have hu := readN_u64 (l := bs.drop p.1) (fun b q => H.byt b (List.mem_of_mem_drop q)) p.2
  have hu' : unN bs p < 2 ^ 64 := hu
  unfold I64 at hm
  refine calls_at (tab_ok _) Try.func55 rfl tQCount (ρ := ⟨[p.2, most], [], [], [(bs.drop p.1).length, c'], [a']⟩) (ids := []) (hx := HX.nil) rfl (Facts.initP rfl oneNil) ?_
  refine node_q (V := fun v => .tuple #[v, .int .u64 (unN bs p : Int)]) #[qR bs a' c' p] (fun a2 c2 => ⟨[(stN bs p).2, (unN bs p : Int)], [], [], [(bs.drop (stN bs p).1).length, c2], [a2]⟩) (by intros; kernel_rfl) (by intros; kernel_rfl) (by intros; kernel_rfl) (by intros; kernel_rfl) (fun _ _ => oneNil) (by intros; kernel_rfl) (fun ids w2 hp hf => qnumP (H.keep (facts_old (fun _ q => q) hf)) hA) ?_
  intro a2 c2 hA2
  have est : (stC most bs p).1 = (stN bs p).1 := rfl
  have done : ∀ {v : SV} {m : Mem} {ρ : Env} {L : Stack} (e : (stC most bs p).2 = (readC most (bs.drop p.1) p.2).2.1), (∀ ids, v.den ρ ids = .tuple #[.agg #[.slice a2 (bs.drop (stN bs p).1).length c2, .int .i64 (stC most bs p).2], .int .i64 (vaC most bs p : Int)]) → (Tree.done v m).holds ⟨Try.prog, w, fun _ => False, fun e w' => ∃ a2 c2, e = .returned (.tuple #[qR bs a2 c2 (stC most bs p), .int .i64 (vaC most bs p : Int)]) ∧ AtP bs a a2 c2 (stC most bs p) ∧ Below w.heap.size w w'⟩ ρ [] HX.nil L := fun _ hv ids w2 hp hf => ⟨a2, c2, by rw [hv]; rfl, ⟨stC_le _ _ _, by rw [est]; exact hA2.2⟩, hf.chg.below⟩
  have big : ∀ {X : Int}, X = ((max 0 most).toNat : Int) → (decide ((unN bs p : Int) > X) = decide ((max 0 most).toNat < unN bs p)) := fun e => by rw [e]; exact decide_eq_decide.2 (by omega)
  have ccT : (stN bs p).2 = 0 → (max 0 most).toNat < unN bs p → (stC most bs p).2 = 12 ∧ vaC most bs p = 0 := fun h1 h2 => by
    unfold stC vaC readC
    dsimp only
    rw [if_pos (show (max 0 most).toNat < (readN (bs.drop p.1) p.2).2.2 from h2)]
    exact ⟨rfl, rfl⟩
  have ccF : ¬ (max 0 most).toNat < unN bs p → (stC most bs p).2 = (stN bs p).2 ∧ vaC most bs p = unN bs p := fun h2 => by
    unfold stC vaC readC
    dsimp only
    rw [if_neg (show ¬ (max 0 most).toNat < (readN (bs.drop p.1) p.2).2.2 from h2)]
    exact ⟨rfl, rfl⟩
  have badz : (stN bs p).2 ≠ 0 → unN bs p = 0 := fun h => by
    unfold stN at h
    unfold unN
    dsimp only at h
    by_cases q : (readN (bs.drop p.1) p.2).2.2 = 0
    · exact q
    · exfalso
      apply h
      revert q
      unfold readN
      split
      · intro q; exact absurd rfl q
      · split
        · intro q; exact absurd rfl q
        · split
          · intro q; exact absurd rfl q
          · split
            · intro q; exact absurd rfl q
            · split
              · intro q; exact absurd rfl q
              · intro _; rfl
  have wN : IntKind.i64.wrap ((unN bs p : Nat) : Int) = ((unN bs p : Nat) : Int) ∨ (max 0 most).toNat < unN bs p := by
    by_cases q : (max 0 most).toNat < unN bs p
    · exact .inr q
    · exact .inl (wrap_i64 (by omega))
  have arm : ∀ {X : Int} {t1 t2 t3 : Tree} {ρ : Env} {m : Mem} {L : Stack} {v1 v2 v3 : SV} {b1 b2 : BE}, True := trivial
  by_cases hneg : most < 0
  · refine br_t (show decide (most < 0) = true from decide_eq_true hneg) ?_
    have hX : IntKind.u64.wrap 0 = ((max 0 most).toNat : Int) := by rw [show (max 0 most).toNat = 0 by omega]; rfl
    by_cases hz : (stN bs p).2 = 0
    · refine br_t (show ((stN bs p).2 == 0) = true by simp [hz]) ?_
      by_cases hb : (max 0 most).toNat < unN bs p
      · refine br_t (show decide ((unN bs p : Int) > IntKind.u64.wrap 0) = true by rw [big hX]; exact decide_eq_true hb) ?_
        obtain ⟨q1, q2⟩ := ccT hz hb
        exact done rfl (fun ids => by rw [q1, q2]; rfl)
      · refine br_f (show decide ((unN bs p : Int) > IntKind.u64.wrap 0) = false by rw [big hX]; exact decide_eq_false hb) ?_
        obtain ⟨q1, q2⟩ := ccF hb
        refine done rfl (fun ids => ?_)
        rw [q1, q2]
        show Value.tuple #[.agg #[.slice a2 (bs.drop (stN bs p).1).length c2, .int .i64 (stN bs p).2], .int .i64 (IntKind.i64.wrap ((unN bs p : Nat) : Int))] = _
        rw [wN.resolve_right hb]
    · refine br_f (show ((stN bs p).2 == 0) = false by simpa using hz) ?_
      have hb : ¬ (max 0 most).toNat < unN bs p := by rw [badz hz]; omega
      obtain ⟨q1, q2⟩ := ccF hb
      refine done rfl (fun ids => ?_)
      rw [q1, q2]
      show Value.tuple #[.agg #[.slice a2 (bs.drop (stN bs p).1).length c2, .int .i64 (stN bs p).2], .int .i64 (IntKind.i64.wrap ((unN bs p : Nat) : Int))] = _
      rw [wN.resolve_right hb]
  · refine br_f (show decide (most < 0) = false from decide_eq_false hneg) ?_
    have hX : IntKind.u64.wrap most = ((max 0 most).toNat : Int) := by rw [IntWalk.u64_in _ (by omega)]; omega
    by_cases hz : (stN bs p).2 = 0
    · refine br_t (show ((stN bs p).2 == 0) = true by simp [hz]) ?_
      by_cases hb : (max 0 most).toNat < unN bs p
      · refine br_t (show decide ((unN bs p : Int) > IntKind.u64.wrap most) = true by rw [big hX]; exact decide_eq_true hb) ?_
        obtain ⟨q1, q2⟩ := ccT hz hb
        exact done rfl (fun ids => by rw [q1, q2]; rfl)
      · refine br_f (show decide ((unN bs p : Int) > IntKind.u64.wrap most) = false by rw [big hX]; exact decide_eq_false hb) ?_
        obtain ⟨q1, q2⟩ := ccF hb
        refine done rfl (fun ids => ?_)
        rw [q1, q2]
        show Value.tuple #[.agg #[.slice a2 (bs.drop (stN bs p).1).length c2, .int .i64 (stN bs p).2], .int .i64 (IntKind.i64.wrap ((unN bs p : Nat) : Int))] = _
        rw [wN.resolve_right hb]
    · refine br_f (show ((stN bs p).2 == 0) = false by simpa using hz) ?_
      have hb : ¬ (max 0 most).toNat < unN bs p := by rw [badz hz]; omega
      obtain ⟨q1, q2⟩ := ccF hb
      refine done rfl (fun ids => ?_)
      rw [q1, q2]
      show Value.tuple #[.agg #[.slice a2 (bs.drop (stN bs p).1).length c2, .int .i64 (stN bs p).2], .int .i64 (IntKind.i64.wrap ((unN bs p : Nat) : Int))] = _
      rw [wN.resolve_right hb]
end Go.Proofs.Yticacnankpaohaa
