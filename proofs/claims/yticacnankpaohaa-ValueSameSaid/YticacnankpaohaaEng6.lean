/- One operation that leaves memory alone. No program in sight. -/
import Derived.Test.YticacnankpaohaaEng5
import Derived.Laws.Cover3
import Derived.Lib.SliceRun
namespace Go.Eng
set_option linter.unusedVariables false
set_option linter.unusedSimpArgs false

def PRes.gives (ρ : Env) : PRes → SV → Prop
  | .val v, u => v = u
  | .need p v, u => v = u ∧ p.den ρ
  | _, _ => False
section
variable {P : Program} {T : Tab} {st : St} {ρ : Env} {ids : List Nat} {a : Act}

theorem eqAns_ok {f : BinOp} {b : BE} {v : SV} (h : (eqAns f b).gives ρ v) : (f = .eql ∧ v = .lf (.bool b)) ∨ (f = .neq ∧ v = .lf (.bool b.mkNot)) := by
  unfold eqAns at h
  split at h
  · exact .inl ⟨rfl, h.symm⟩
  · exact .inr ⟨rfl, h.symm⟩
  · exact h.elim
/-- '==' and '!=' once 'equal' has answered. -/
theorem run_eqs (f : BinOp) (t : Nat) (ox oy : Operand) (x y : Value) (b : BE) (v : SV) (w : World) (hf : (eqAns f b).gives ρ v)
    (hg : (eqGuard f t ox oy x y).run P w = .ok () w)
    (he : binOp .eql t x y = (do pure (.bool (← Op.equal t x y)))) (hn : binOp .neq t x y = (do pure (.bool (!(← Op.equal t x y)))))
    (hq : (Op.equal t x y).run P w = .ok (b.den ρ) w) : (do eqGuard f t ox oy x y; binOp f t x y : Sem Value).run P w = .ok (v.den ρ ids) w := by
  rw [Sem.run_bind, hg, Result.andThen_ok]
  rcases eqAns_ok hf with ⟨rfl, rfl⟩ | ⟨rfl, rfl⟩
  · rw [he]; simp [hq, SV.den, LV.den]
  · rw [hn]; simp [hq, SV.den, LV.den, mkNot_den]
theorem run_guard_plain (f : BinOp) (t : Nat) (ox oy : Operand) (x y : Value) (w : World) (h : (match x, y with | .nilIface, .nilIface => false | .agg _, .agg _ => false | _, _ => true) = true) : (eqGuard f t ox oy x y).run P w = .ok () w := by
  cases f <;> first
    | rfl
    | (cases x <;> cases y <;> first | rfl | (simp at h; done))
theorem run_equalIn_ptr1 (d t e : Nat) (p : Option Addr) (h : P.underlying t = some (.pointer e)) (w : World) : (Op.equalIn (d + 1) t (.pointer p) (.pointer none)).run P w = .ok p.isNone w := by
  cases p <;> simp [Op.equalIn, run_underlying h]
theorem run_equalIn_ptr2 (d t e : Nat) (p : Option Addr) (h : P.underlying t = some (.pointer e)) (w : World) : (Op.equalIn (d + 1) t (.pointer none) (.pointer p)).run P w = .ok p.isNone w := by
  cases p <;> simp [Op.equalIn, run_underlying h]
theorem run_equal_ptr1 (t e : Nat) (p : Option Addr) (h : P.underlying t = some (.pointer e)) (w : World) : (Op.equal t (.pointer p) (.pointer none)).run P w = .ok p.isNone w := run_equalIn_ptr1 9999 t e p h w
theorem run_equal_ptr2 (t e : Nat) (p : Option Addr) (h : P.underlying t = some (.pointer e)) (w : World) : (Op.equal t (.pointer none) (.pointer p)).run P w = .ok p.isNone w := run_equalIn_ptr2 9999 t e p h w
theorem leafEq_ok (hT : TabOk P T) {t : Nat} {i : TI} (hi : T.ti t = some i) {f : BinOp} {x y : LV} {v : SV} (h : (leafEq f i.d x y).gives ρ v) (ox oy : Operand) (w : World) :
    (do eqGuard f t ox oy (x.den ρ ids) (y.den ρ ids); binOp f t (x.den ρ ids) (y.den ρ ids) : Sem Value).run P w = .ok (v.den ρ ids) w := by
  obtain ⟨inf, _, _, _, hd⟩ := ti_ok hT hi
  have hptr : i.d.isPtr = true → ∃ e, P.underlying t = some (.pointer e) := fun h => by
    cases hh : i.d <;> rw [hh] at h hd <;> first | (cases h; done) | exact ⟨_, und_ptr hd⟩
  have hsl : i.d.isSlice = true → ∃ e, P.underlying t = some (.slice e) := fun h => by
    cases hh : i.d <;> rw [hh] at h hd <;> first | (cases h; done) | exact ⟨_, und_slice hd⟩
  have hbo : i.d.isBool = true → P.underlying t = some .bool := fun h => by
    cases hh : i.d <;> rw [hh] at h hd <;> first | (cases h; done) | exact und_bool hd
  unfold leafEq at h
  split at h
  all_goals first
    | (exact h.elim)
    | skip
  all_goals
    split at h
    case isFalse => exact h.elim
  · rename_i hb
    refine run_eqs f t ox oy _ _ _ v w h (run_guard_plain f t ox oy _ _ w rfl) rfl rfl ?_
    simp only [LV.den, mkEq_den]
    exact run_equal_bool w t _ _ (hbo hb)
  · rename_i hb
    obtain ⟨e, he⟩ := hptr hb
    refine run_eqs f t ox oy _ _ _ v w h (run_guard_plain f t ox oy _ _ w rfl) rfl rfl ?_
    exact run_equal_ptr1 t e _ he w
  · rename_i hb
    obtain ⟨e, he⟩ := hptr hb
    refine run_eqs f t ox oy _ _ _ v w h (run_guard_plain f t ox oy _ _ w rfl) rfl rfl ?_
    exact run_equal_ptr2 t e _ he w
  · rename_i hb
    obtain ⟨e, he⟩ := hptr hb
    refine run_eqs f t ox oy _ _ _ v w h (run_guard_plain f t ox oy _ _ w rfl) rfl rfl ?_
    exact run_equal_ptr1 t e _ he w
  · rename_i hb
    obtain ⟨e, he⟩ := hsl hb
    refine run_eqs f t ox oy _ _ _ v w h (run_guard_plain f t ox oy _ _ w rfl) rfl rfl ?_
    exact run_equal_slice_nil w t e _ _ _ he
  · rename_i hb
    obtain ⟨e, he⟩ := hsl hb
    refine run_eqs f t ox oy _ _ _ v w h (run_guard_plain f t ox oy _ _ w rfl) rfl rfl ?_
    exact run_equal_slice_nil w t e _ _ _ he
  · rename_i hb
    obtain ⟨e, he⟩ := hsl hb
    refine run_eqs f t ox oy _ _ _ v w h (run_guard_plain f t ox oy _ _ w rfl) rfl rfl ?_
    exact run_equal_slice_nil w t e _ _ _ he
theorem isLit_some {e : IE} {n : Int} (h : e.isLit = some n) : e = .lit n := by
  cases e <;> simp_all [IE.isLit]
theorem intS_ok {f : BinOp} {t : Nat} {k k' : IntKind} {x y : IE} {v : SV} (h : (intS f k x k' y).gives ρ v) (ox oy : Operand) (w : World) :
    (do eqGuard f t ox oy (.int k (x.den ρ)) (.int k' (y.den ρ)); binOp f t (.int k (x.den ρ)) (.int k' (y.den ρ)) : Sem Value).run P w = .ok (v.den ρ ids) w := by
  rw [Sem.run_bind, run_guard_plain f t ox oy _ _ w rfl, Result.andThen_ok]
  unfold intS at h
  split at h
  · rename_i hs
    have key : 0 ≤ y.den ρ ∧ v = .lf (.int k (.op f k x y)) := by
      unfold shS at h
      split at h
      · rename_i n hn
        rw [isLit_some hn] at h ⊢
        split at h
        · exact h.elim
        · exact ⟨by simp only [IE.den]; omega, h.symm⟩
      · exact ⟨h.2, h.1.symm⟩
    obtain ⟨h0, rfl⟩ := key
    have h0' : ¬ (y.den ρ < 0) := by omega
    cases f <;> first
      | (cases hs; done)
      | (simp only [binOp, Op.shift, if_neg h0', SV.den, LV.den, IE.den, ifn]; rfl)
  · rename_i hs
    split at h
    · rename_i hk
      subst hk
      split at h
      · rename_i hc
        cases h
        cases f <;> first
          | (cases hc; done)
          | (simp only [binOp, ne_eq, not_true_eq_false, if_false, Op.intCmp, SV.den, LV.den, mkCmp_den, cfn]; rfl)
      · rename_i hc
        split at h
        · rename_i hdv
          have key : y.den ρ ≠ 0 ∧ v = .lf (.int k (.op f k x y)) := by
            unfold divS at h
            split at h
            · rename_i n hn
              rw [isLit_some hn] at h ⊢
              split at h
              · exact h.elim
              · rename_i hne; exact ⟨by simpa only [IE.den] using hne, h.symm⟩
            · exact ⟨h.2, h.1.symm⟩
          obtain ⟨h0, rfl⟩ := key
          cases f <;> first
            | (cases hdv; done)
            | (simp only [binOp, ne_eq, not_true_eq_false, if_false, Op.intDiv, if_neg h0, SV.den, LV.den, IE.den, ifn]; rfl)
        · rename_i hdv
          cases h
          cases f <;> first
            | (exact absurd rfl hs)
            | (exact absurd rfl hc)
            | (exact absurd rfl hdv)
            | (simp only [binOp, ne_eq, not_true_eq_false, if_false, Op.intArith, Op.intBits, SV.den, LV.den, mk_den, ifn]; rfl)
    · exact h.elim
theorem binS_ok (hT : TabOk P T) {f : BinOp} {t : Nat} {x y v : SV} (h : (binS T f t x y).gives ρ v) (ox oy : Operand) (w : World) :
    (do eqGuard f t ox oy (x.den ρ ids) (y.den ρ ids); binOp f t (x.den ρ ids) (y.den ρ ids) : Sem Value).run P w = .ok (v.den ρ ids) w := by
  unfold binS at h
  split at h
  · rename_i l r
    split at h
    · exact intS_ok h ox oy w
    · split at h
      · rename_i i hi; exact leafEq_ok hT hi h ox oy w
      · exact h.elim
  · rename_i xs ys
    split at h
    · exact h.elim
    · rename_i i hi
      split at h
      · rename_i hagg
        split at h
        · rename_i b hb
          obtain ⟨inf, _, _, _, hd⟩ := ti_ok hT hi
          have hq := eqS_ok (ρ := ρ) (ids := ids) hT 20 t xs ys b hb i hi 10000 (by omega) w
          simp only [mkV, hagg, if_true] at hq
          have hgt : P.eqGuardType P.depth t = false := by
            cases hh : i.d <;> rw [hh] at hagg hd <;> first
              | (cases hagg; done)
              | (obtain ⟨_, _, _, _, _, hg⟩ := und_struct hd; exact hg)
              | exact (und_array hd).2.2.2
          exact run_eqs f t ox oy _ _ b v w h (run_eqGuard_agg w f t ox oy _ _ hgt) rfl rfl hq
        · exact h.elim
      · exact h.elim
  · exact h.elim
theorem unS_ok {f : UnOp} {x v : SV} (h : (unS f x).gives ρ v) (w : World) : (Op.unary f (x.den ρ ids)).run P w = .ok (v.den ρ ids) w := by
  unfold unS at h
  split at h
  · cases h; simp [Op.unary, SV.den, LV.den, mkNot_den]
  · cases h; simp [Op.unary, SV.den, LV.den, Op.intArith, mk_den, ifn, IE.den]
  · cases h; simp only [Op.unary, SV.den, LV.den, Op.intBits, IE.den, ifn]; rfl
  · exact h.elim
theorem convS_ok (hT : TabOk P T) {s d : Nat} {x v : SV} (h : (convS T s d x).gives ρ v) (w : World) : (convert s d (x.den ρ ids)).run P w = .ok (v.den ρ ids) w := by
  unfold convS at h
  split at h
  · rename_i k1 _ _ k2 _ _ k3 e h1 h2
    obtain ⟨_, _, _, _, hd1⟩ := ti_ok hT h1
    obtain ⟨_, _, _, _, hd2⟩ := ti_ok hT h2
    have key : (convert s d (.int k3 (e.den ρ))).run P w = .ok (.int k2 (k2.wrap (e.den ρ))) w := by
      simp [convert, run_underlying (und_int hd1), run_underlying (und_int hd2), Conv.intToInt]
    simp only [SV.den, LV.den]
    rw [key]
    split at h
    · rename_i n
      split at h
      · rename_i hs
        cases h
        simp only [SV.den, LV.den, IE.den]
        simp only [small, Bool.and_eq_true, decide_eq_true_eq] at hs
        rw [IntWalk.i64_in _ (by omega)]
      · cases h; rfl
    · cases h; rfl
  · exact h.elim
theorem partS_ok (hT : TabOk P T) {t : Nat} {cs : List LV} {off : Nat} {v : SV} (h : partS T t cs off = some v) (w : World) : (part t (cellsDen ρ ids cs).toArray off).run P w = .ok (v.den ρ ids) w := by
  unfold partS at h
  split at h
  · cases h
  · rename_i i hi
    have hp : ∀ (hb : (match i.d with | .bad => false | _ => true) = true) (hl : i.d.isAgg = false → ∃ l r, sub cs off i.size = l :: r), (part t (cellsDen ρ ids cs).toArray off).run P w = .ok (mkV ρ ids i (sub cs off i.size)) w := fun hb hl => run_part hT hi hb cs off hl w
    split at h
    · rename_i ha
      split at h
      · cases h
        rw [hp (by cases hh : i.d <;> simp_all [TD.isAgg]) (fun e => by rw [ha] at e; cases e)]
        simp only [mkV, ha, if_true]; rfl
      · cases h
    · rename_i ha
      have hl : i.d.isAgg = false := by simpa using ha
      have hb : (match i.d with | .bad => false | _ => true) = true ∧ (cs[off]?).map SV.lf = some v := by
        split at h
        · cases h
        · rename_i hne; exact ⟨by split <;> simp_all, h⟩
      obtain ⟨hb, h⟩ := hb
      obtain ⟨l, hl2, rfl⟩ := Option.map_eq_some_iff.1 h
      unfold part
      rw [Sem.run_bind, run_isAgg hT hi hb, Result.andThen_ok, hl]
      have h1 : (cellsDen ρ ids cs).toArray[off]? = some (l.den ρ ids) := by simp [getElem_cellsDen, hl2]
      simp only [Bool.false_eq_true, if_false]
      rw [h1]; rfl
theorem fieldS_ok (hT : TabOk P T) {t : Nat} {x v : SV} {f : Nat} (h : (fieldS T t x f).gives ρ v) (w : World) : (Instr.field t (x.den ρ ids) f).run P w = .ok (v.den ρ ids) w := by
  unfold fieldS at h
  split at h
  · rename_i fs _ _ cs hi
    obtain ⟨_, _, _, _, hd⟩ := ti_ok hT hi
    obtain ⟨gs, hu, hfs, _⟩ := und_struct hd
    split at h
    · rename_i off ft sz hf
      split at h
      · rename_i u hu2
        cases h
        subst hfs
        simp only [List.getElem?_map, Option.map_eq_some_iff] at hf
        obtain ⟨g, hg, he⟩ := hf
        have hg' : gs[f]? = some g := by simpa using hg
        simp only [Prod.mk.injEq] at he
        obtain ⟨rfl, rfl, _⟩ := he
        have := partS_ok (ρ := ρ) (ids := ids) hT hu2 w
        simp only [Instr.field, Sem.run_bind, run_underlying hu, Result.andThen_ok, hg', SV.den, asAgg, Sem.run_pure, this]
      · exact h.elim
    · exact h.elim
  · exact h.elim
theorem add_plain' (b o n : Nat) : (⟨b, o, none⟩ : Addr).add n = ⟨b, o + n, none⟩ := by unfold Addr.add; split <;> simp_all
theorem add_add' (a : Addr) (m n : Nat) : (a.add m).add n = a.add (m + n) := by
  unfold Addr.add
  split
  · rename_i h; subst h; simp
  · split
    · rename_i h; subst h; rename_i h1; simp [h1]
    · rename_i h1 h2
      rw [if_neg (by omega)]
      simp [Nat.add_assoc]
theorem fieldAddrS_ok (hT : TabOk P T) {t : Nat} {x v : SV} {f : Nat} (h : (fieldAddrS T t x f).gives ρ v) (w : World) : (Instr.fieldAt t (x.den ρ ids) f).run P w = .ok (v.den ρ ids) w := by
  unfold fieldAddrS at h
  split at h
  · rename_i fs _ _ hi
    obtain ⟨_, _, _, _, hd⟩ := ti_ok hT hi
    obtain ⟨gs, hu, hfs, hn, _⟩ := und_struct hd
    split at h
    · rename_i off ft sz hf
      split at h
      · exact h.elim
      · rename_i hsz
        subst hfs
        simp only [List.getElem?_map, Option.map_eq_some_iff] at hf
        obtain ⟨g, hg, he⟩ := hf
        have hg' : gs[f]? = some g := by simpa using hg
        simp only [Prod.mk.injEq] at he
        obtain ⟨rfl, rfl, rfl⟩ := he
        obtain ⟨inf, hinf⟩ := Option.isSome_iff_exists.1 (hn g (Array.mem_of_getElem? hg')).2
        have hs := run_sizeOf (P := P) w hinf
        split at h
        · cases h
          simp only [Instr.fieldAt, Sem.run_bind, run_underlying hu, Result.andThen_ok, hg', SV.den, LV.den, Instr.sureAddr, Sem.run_pure, fieldPlace, hs, Sem.run_ite, if_neg hsz, add_plain']
        · cases h
          simp only [Instr.fieldAt, Sem.run_bind, run_underlying hu, Result.andThen_ok, hg', SV.den, LV.den, Instr.sureAddr, Sem.run_pure, fieldPlace, hs, Sem.run_ite, if_neg hsz, add_add', Nat.add_assoc]
        · cases h
          simp only [Instr.fieldAt, Sem.run_bind, run_underlying hu, Result.andThen_ok, hg', SV.den, LV.den, Instr.sureAddr, Sem.run_pure, fieldPlace, hs, Sem.run_ite, if_neg hsz, add_plain', Nat.add_right_comm]
        · exact h.elim
    · exact h.elim
  · exact h.elim
theorem toIE_den (n : NE) : n.toIE.den ρ = (n.den ρ : Int) := by cases n <;> rfl
theorem indexAddrS_ok (hT : TabOk P T) {t : Nat} {x ix v : SV} (h : (indexAddrS T t x ix).gives ρ v) (w : World) : (Instr.indexAt t (x.den ρ ids) (ix.den ρ ids)).run P w = .ok (v.den ρ ids) w := by
  unfold indexAddrS at h
  split at h
  · rename_i e _ _ hi
    obtain ⟨_, _, _, _, hd⟩ := ti_ok hT hi
    have hu := und_slice hd
    split at h
    · exact h.elim
    · rename_i sz hs
      unfold Tab.size at hs
      obtain ⟨j, hj, rfl⟩ := Option.map_eq_some_iff.1 hs
      have hsz := run_size hT hj w
      split at h
      · rename_i a n c k i
        obtain ⟨rfl, ha, h0, h1⟩ := h
        rw [toIE_den] at h1
        obtain ⟨x0, hx0⟩ := Option.isSome_iff_exists.1 ha
        simp only [SV.den, LV.den, Instr.indexAt, asIntOf, Sem.run_bind, Sem.run_pure, Result.andThen_ok, run_underlying hu, hx0, Option.getD_some]
        simp only [Sem.run_ite, if_pos (And.intro h0 h1), Sem.run_bind, hsz, Result.andThen_ok, Sem.run_pure, add_add', Nat.add_zero]
      · rename_i nm off len c k i
        split at h
        · rename_i hb
          cases h
          simp only [SV.den, LV.den, IE.den, Instr.indexAt, asIntOf, Sem.run_bind, Sem.run_pure, Result.andThen_ok, run_underlying hu]
          simp only [Sem.run_ite, if_pos hb, Sem.run_bind, hsz, Result.andThen_ok, Sem.run_pure, add_plain']
        · exact h.elim
      · rename_i nm off len c k i _
        obtain ⟨rfl, h0, h1⟩ := h
        simp only [SV.den, LV.den, Instr.indexAt, asIntOf, Sem.run_bind, Sem.run_pure, Result.andThen_ok, run_underlying hu]
        simp only [IE.den] at h1
        simp only [Sem.run_ite, if_pos (And.intro h0 h1), Sem.run_bind, hsz, Result.andThen_ok, Sem.run_pure, add_plain']
      · exact h.elim
  · rename_i n e sz _ _ hi
    obtain ⟨_, _, _, _, hd⟩ := ti_ok hT hi
    obtain ⟨hu, rfl, hinf, _⟩ := und_array hd
    obtain ⟨inf, hinf⟩ := Option.isSome_iff_exists.1 hinf
    have hs := run_sizeOf (P := P) w hinf
    split at h
    · rename_i nm off k i
      split at h
      · rename_i hb
        cases h
        simp only [SV.den, LV.den, IE.den, Instr.indexAt, asIntOf, Sem.run_bind, Sem.run_pure, Result.andThen_ok, run_underlying hu, Instr.sureAddr]
        simp only [Sem.run_ite, if_pos hb, Sem.run_bind, hs, Result.andThen_ok, Sem.run_pure, add_plain']
      · exact h.elim
    · rename_i nm off k i _
      obtain ⟨rfl, h0, h1⟩ := h
      simp only [SV.den, LV.den, Instr.indexAt, asIntOf, Sem.run_bind, Sem.run_pure, Result.andThen_ok, run_underlying hu, Instr.sureAddr]
      simp only [IE.den] at h1
      simp only [Sem.run_ite, if_pos (And.intro h0 h1), Sem.run_bind, hs, Result.andThen_ok, Sem.run_pure, add_plain']
    · exact h.elim
  · exact h.elim
theorem indexS_ok (hT : TabOk P T) {t : Nat} {x ix v : SV} (h : (indexS T t x ix).gives ρ v) (w : World) : (Instr.index t (x.den ρ ids) (ix.den ρ ids)).run P w = .ok (v.den ρ ids) w := by
  unfold indexS at h
  split at h
  · rename_i n e sz _ _ cs k i hi
    obtain ⟨_, _, _, _, hd⟩ := ti_ok hT hi
    obtain ⟨hu, rfl, hinf, _⟩ := und_array hd
    obtain ⟨inf, hinf⟩ := Option.isSome_iff_exists.1 hinf
    have hs := run_sizeOf (P := P) w hinf
    split at h
    · rename_i hb
      split at h
      · rename_i u hu2
        cases h
        have := partS_ok (ρ := ρ) (ids := ids) hT hu2 w
        simp only [SV.den, LV.den, IE.den, Instr.index, asIntOf, Sem.run_bind, Sem.run_pure, Result.andThen_ok, run_underlying hu, Sem.run_ite, if_pos hb, hs, this]
      · exact h.elim
    · exact h.elim
  · exact h.elim
theorem extractS_ok {x v : SV} {n : Nat} (h : (extractS x n).gives ρ v) (w : World) : (Instr.extract (x.den ρ ids) n).run P w = .ok (v.den ρ ids) w := by
  unfold extractS at h
  split at h
  · rename_i vs
    split at h
    · rename_i cs hc
      cases h
      have : (vs.map (compDen ρ ids)).toArray[n]? = some (.agg (cellsDen ρ ids cs).toArray) := by simp [hc, compDen]
      simp only [Instr.extract, SV.den]
      rw [this]; rfl
    · rename_i c hc
      cases h
      have : (vs.map (compDen ρ ids)).toArray[n]? = some (c.den ρ ids) := by simp [hc, compDen]
      simp only [Instr.extract, SV.den]
      rw [this]; rfl
    · exact h.elim
  · rename_i b vs
    split at h
    · rename_i h0
      subst h0
      cases h
      cases hb : b.den ρ <;> simp [Instr.extract, SV.den, LV.den, hb]
    · exact h.elim
  · exact h.elim
theorem one_notagg {c : Cnt} (he : EnvOk ρ c) {l : LV} (h : l.isOne = true) : (l.den ρ ids).cells = #[l.den ρ ids] := by
  cases l with
  | val i =>
    simp only [LV.den]
    rcases Nat.lt_or_ge i ρ.v.length with q | q
    · have hm : ρ.v.getD i undef ∈ ρ.v := by simp [List.getD, q]
      have h1 := he.one _ hm
      generalize ρ.v.getD i undef = u at *
      cases u <;> first | rfl | (cases h1; done)
    · have : ρ.v.getD i undef = undef := by simp [List.getD, List.getElem?_eq_none q]
      rw [this]; rfl
  | cst v => cases v <;> first | rfl | (cases h; done)
  | _ => rfl
theorem cells_den {c : Cnt} (he : EnvOk ρ c) {x : SV} {cs : List LV} (h : x.cells = some cs) : (x.den ρ ids).cells.toList = cellsDen ρ ids cs := by
  cases x with
  | lf l =>
    simp only [SV.cells] at h
    split at h
    · rename_i h1
      cases h
      simp only [SV.den, one_notagg he h1, cellsDen, List.map_cons, List.map_nil]
    · cases h
  | agg cs' => cases h; simp [SV.den, Value.cells]
  | tup _ => cases h
  | nxt _ _ => cases h
  | dead => cases h
theorem cells_size {c : Cnt} (he : EnvOk ρ c) {x : SV} {cs : List LV} (h : x.cells = some cs) : (x.den ρ ids).cells.size = cs.length := by
  rw [← Array.length_toList, cells_den (ids := ids) he h]; simp [cellsDen]
theorem fold_set (xs : List Value) : ∀ (off j : Nat) (cells : Array Value), off + j + xs.length ≤ cells.size →
    ((xs.zipIdx j).foldl (fun cs (p : Value × Nat) => cs.setIfInBounds (off + p.2) p.1) cells).toList = cells.toList.take (off + j) ++ xs ++ cells.toList.drop (off + j + xs.length) := by
  induction xs with
  | nil => intro off j cells _; simp
  | cons x xs ih =>
    intro off j cells h
    simp only [List.length_cons] at h
    simp only [List.zipIdx_cons, List.foldl_cons]
    rw [ih off (j + 1) _ (by simp; omega)]
    apply List.ext_getElem?
    intro q
    simp only [Array.toList_setIfInBounds, List.length_cons]
    simp only [List.getElem?_append, List.length_append, List.length_take, List.length_set, Array.length_toList, List.getElem?_take, List.getElem?_drop, List.getElem?_set, List.getElem?_cons, List.length_cons]
    have e1 : min (off + (j + 1)) cells.size = off + j + 1 := by omega
    have e2 : min (off + j) cells.size = off + j := by omega
    simp only [e1, e2]
    by_cases h1 : q < off + j
    · rw [if_pos (by omega), if_pos (by omega), if_pos (by omega), if_neg (by omega), if_pos (by omega), if_pos (by omega), if_pos (by omega)]
    · by_cases h2 : q = off + j
      · subst h2
        rw [if_pos (by omega), if_pos (by omega), if_pos (by omega), if_pos rfl, if_pos (by omega), if_pos (by omega), if_neg (by omega), if_pos (by omega)]
      · by_cases h3 : q < off + j + 1 + xs.length
        · rw [if_pos (by omega), if_neg (by omega), if_pos (by omega), if_neg (by omega), if_neg (by omega)]
          congr 1
        · rw [if_neg (by omega), if_neg (by omega), if_neg (by omega)]
          congr 1; omega
theorem fill_ok {c : Cnt} (he : EnvOk ρ c) (pl : Nat → Option (Nat × Nat)) : ∀ (ps : List (Nat × SV)) (cells : List LV) (r : List LV), fillS pl cells ps = some r → ∀ (A : Array Value), A.toList = cellsDen ρ ids cells →
    ∃ R, Instr.fill pl A (ps.map fun p => (p.1, p.2.den ρ ids)) = some R ∧ R.toList = cellsDen ρ ids r
  | [], cells, r, h, A, hA => by
    simp only [fillS, Option.some.injEq] at h
    subst h; exact ⟨A, rfl, hA⟩
  | (i, v) :: rest, cells, r, h, A, hA => by
    simp only [fillS] at h
    split at h
    · rename_i off size xs h1 h2
      split at h
      · rename_i hb
        have hsz := cells_size (ids := ids) he h2
        have hcd := cells_den (ids := ids) he h2
        have hAs : A.size = cells.length := by rw [← Array.length_toList, hA]; simp [cellsDen]
        have hf := fold_set (v.den ρ ids).cells.toList off 0 A (by simp only [Array.length_toList]; omega)
        obtain ⟨R, hR1, hR2⟩ := fill_ok he pl rest _ _ h ((v.den ρ ids).cells.zipIdx.foldl (fun cs (p : Value × Nat) => cs.setIfInBounds (off + p.2) p.1) A) (by
          rw [← Array.foldl_toList, Array.toList_zipIdx, hf, hA, hcd]
          simp [cellsDen, splice])
        refine ⟨R, ?_, hR2⟩
        simp only [List.map_cons, Instr.fill, h1]
        rw [if_neg (by simp only [ne_eq, bne_iff_ne, Bool.or_eq_true, decide_eq_true_eq, not_or, Decidable.not_not]; omega)]
        exact hR1
      · cases h
    · cases h
theorem evAll_ok (ha : ActOk st ρ ids a) : ∀ {ps : List (Nat × Operand)} {vs : List (Nat × SV)}, evAll st ps = some vs → ps.map (fun p => (p.1, a.eval p.2)) = vs.map fun p => (p.1, p.2.den ρ ids)
  | [], vs, h => by simp only [evAll, Option.some.injEq] at h; subst h; rfl
  | (i, x) :: r, vs, h => by
    simp only [evAll] at h
    split at h
    · rename_i v us h1 h2
      cases h
      simp only [List.map_cons, ev_ok ha h1, evAll_ok ha h2]
    · cases h
theorem evList_ok (ha : ActOk st ρ ids a) : ∀ {ps : List Operand} {vs : List SV}, evList st ps = some vs → ps.map a.eval = vs.map (SV.den ρ ids)
  | [], vs, h => by simp only [evList, Option.some.injEq] at h; subst h; rfl
  | x :: r, vs, h => by
    simp only [evList] at h
    split at h
    · rename_i v us h1 h2
      cases h
      simp only [List.map_cons, ev_ok ha h1, evList_ok ha h2]
    · cases h
theorem buildS_ok (hT : TabOk P T) {c : Cnt} (he : EnvOk ρ c) {t : Nat} {vs : List (Nat × SV)} {v : SV} (h : (buildS T t vs).gives ρ v) (ps : Array (Nat × Value)) (hps : ps.toList = vs.map fun p => (p.1, p.2.den ρ ids)) (w : World) :
    (Instr.build t ps).run P w = .ok (v.den ρ ids) w := by
  unfold buildS at h
  split at h
  · rename_i fs _ _ z hi hz
    obtain ⟨_, _, _, _, hd⟩ := ti_ok hT hi
    obtain ⟨gs, hu, hfs, hn, _⟩ := und_struct hd
    obtain ⟨zv, hz1, hz2⟩ := zero_ok hT hz ρ ids w
    split at h
    · rename_i cs hf
      cases h
      obtain ⟨R, hR1, hR2⟩ := fill_ok (ids := ids) he _ _ _ _ hf zv.cells hz2
      have hpl : (gs.mapM fun f => (do pure (f.offset, ← sizeOf f.type) : Sem (Nat × Nat))).run P w = .ok (gs.map fun f => (f.offset, P.cellsOf f.type)) w := by
        have key : ∀ (l : List Field), (∀ f, f ∈ l → (P.info? f.type).isSome = true) → (l.mapM fun f => (do pure (f.offset, ← sizeOf f.type) : Sem (Nat × Nat))).run P w = .ok (l.map fun f => (f.offset, P.cellsOf f.type)) w := by
          intro l
          induction l with
          | nil => intro _; simp
          | cons f l ih =>
            intro hl
            obtain ⟨inf, hinf⟩ := Option.isSome_iff_exists.1 (hl f (by simp))
            simp only [List.mapM_cons, Sem.run_bind, run_sizeOf w hinf, Result.andThen_ok, Sem.run_pure, ih (fun g hg => hl g (by simp [hg])), List.map_cons]
        have h2 := key gs.toList (fun f hf => (hn f (by simpa using hf)).2)
        rw [Array.mapM_eq_mapM_toList, Sem.run_map, h2]
        simp only [Result.andThen_ok]
        congr 1
        apply Array.toList_inj.1
        simp
      have hplace : (fun (i : Nat) => ((gs.map fun f => (f.offset, P.cellsOf f.type))[i]? : Option (Nat × Nat))) = fun (i : Nat) => ((fs[i]?).map fun (f : Nat × Nat × Nat) => (f.1, f.2.2)) := by
        funext i
        subst hfs
        simp [Function.comp_def]
      simp only [Instr.build, Sem.run_bind, hz1, Result.andThen_ok, run_underlying hu, hpl, hps]
      rw [hplace, hR1]
      simp only [Sem.run_pure, SV.den]
      congr 2
      apply Array.toList_inj.1
      rw [hR2]
    · exact h.elim
  · rename_i n e sz _ _ z hi hz
    obtain ⟨_, _, _, _, hd⟩ := ti_ok hT hi
    obtain ⟨hu, rfl, hinf, _⟩ := und_array hd
    obtain ⟨inf, hinf⟩ := Option.isSome_iff_exists.1 hinf
    have hs := run_sizeOf (P := P) w hinf
    obtain ⟨zv, hz1, hz2⟩ := zero_ok hT hz ρ ids w
    split at h
    · rename_i cs hf
      cases h
      obtain ⟨R, hR1, hR2⟩ := fill_ok (ids := ids) he _ _ _ _ hf zv.cells hz2
      simp only [Instr.build, Sem.run_bind, hz1, Result.andThen_ok, run_underlying hu, hs, hps]
      rw [hR1]
      simp only [Sem.run_pure, SV.den]
      congr 2
      apply Array.toList_inj.1
      rw [hR2]
    · exact h.elim
  · exact h.elim
theorem capsOf_ok : ∀ {vs : List SV} {cs : List (Nat × Nat)}, capsOf vs = some cs → vs.map (SV.den ρ ids) = cs.map fun c => Value.pointer (some ⟨idAt ids c.1, c.2, none⟩)
  | [], cs, h => by simp only [capsOf, Option.some.injEq] at h; subst h; rfl
  | .lf (.ptr n o) :: r, cs, h => by
    simp only [capsOf] at h
    obtain ⟨c0, h1, rfl⟩ := Option.map_eq_some_iff.1 h
    simp only [List.map_cons, capsOf_ok h1, SV.den, LV.den]
  | .lf (.int ..) :: _, _, h => by simp [capsOf] at h
  | .lf (.bool _) :: _, _, h => by simp [capsOf] at h
  | .lf (.val _) :: _, _, h => by simp [capsOf] at h
  | .lf .nilp :: _, _, h => by simp [capsOf] at h
  | .lf (.sl ..) :: _, _, h => by simp [capsOf] at h
  | .lf (.nsl ..) :: _, _, h => by simp [capsOf] at h
  | .lf .nilsl :: _, _, h => by simp [capsOf] at h
  | .lf (.adr ..) :: _, _, h => by simp [capsOf] at h
  | .lf (.pix ..) :: _, _, h => by simp [capsOf] at h
  | .lf (.fnv ..) :: _, _, h => by simp [capsOf] at h
  | .lf (.cst _) :: _, _, h => by simp [capsOf] at h
  | .agg _ :: _, _, h => by simp [capsOf] at h
  | .tup _ :: _, _, h => by simp [capsOf] at h
  | .nxt _ _ :: _, _, h => by simp [capsOf] at h
  | .dead :: _, _, h => by simp [capsOf] at h
theorem lenS_ok (hT : TabOk P T) {t : Nat} {x v : SV} (h : (lenS T t x).gives ρ v) (ty : Nat) (w : World) : (Builtin.len_ #[t] ty #[x.den ρ ids]).run P w = .ok (v.den ρ ids) w := by
  unfold lenS at h
  split at h
  all_goals first
    | (exact h.elim)
    | skip
  all_goals
    rename_i hi
    obtain ⟨_, _, _, _, hd⟩ := ti_ok hT hi
    cases h
  · simp [Builtin.len_, run_underlying (und_slice hd), SV.den, LV.den, toIE_den, goInt]
  · simp [Builtin.len_, run_underlying (und_slice hd), SV.den, LV.den, goInt, IE.den]
  · simp [Builtin.len_, run_underlying (und_slice hd), SV.den, LV.den, goInt, IE.den]
  · simp [Builtin.len_, run_underlying (und_array hd).1, SV.den, LV.den, goInt, IE.den]

/-- One operation that leaves memory alone. -/
theorem pure_ok (hT : TabOk P T) (ha : ActOk st ρ ids a) {c : Cnt} (he : EnvOk ρ c) {o : Oper} {v : SV} (h : (pureS T o st).gives ρ v) (w : World) : (execOp a.eval o).run P w = .ok (.value (v.den ρ ids)) w := by
  obtain ⟨dst, op, type, pos, after, guard⟩ := o
  unfold pureS at h
  simp only at h
  split at h
  · split at h
    · rename_i hx
      cases h; simp only [execOp, ev_ok ha hx]; rfl
    · exact h.elim
  · split at h
    · rename_i hx
      cases h; simp only [execOp, ev_ok ha hx]; rfl
    · exact h.elim
  · rename_i cc aa bb
    split at h
    · rename_i r hc
      split at h
      · rename_i u hu
        cases h
        have h1 := ev_ok ha (evL_ev hc)
        have h2 := ev_ok ha hu
        have h1' : a.eval cc = .bool r := h1
        simp only [execOp, h1', asBool, Sem.run_bind, Sem.run_pure, Result.andThen_ok]
        rw [← h2]
        cases r <;> rfl
      · exact h.elim
    · exact h.elim
    · exact h.elim
  · split at h
    · rename_i h1 h2
      have := binS_ok (ids := ids) hT h
      simp only [execOp, ev_ok ha h1, ev_ok ha h2]
      rw [Sem.run_bind, this]; rfl
    · exact h.elim
  · split at h
    · rename_i h1
      have := unS_ok (P := P) (ids := ids) h w
      simp only [execOp, ev_ok ha h1]
      rw [Sem.run_bind, this]; rfl
    · exact h.elim
  · split at h
    · rename_i h1
      have := convS_ok (ids := ids) hT h w
      simp only [execOp, ev_ok ha h1]
      rw [Sem.run_bind, this]; rfl
    · exact h.elim
  · split at h
    · rename_i h1
      have := fieldS_ok (ids := ids) hT h w
      simp only [execOp, ev_ok ha h1]
      rw [Sem.run_bind, this]; rfl
    · exact h.elim
  · split at h
    · rename_i h1
      have := fieldAddrS_ok (ids := ids) hT h w
      simp only [execOp, ev_ok ha h1]
      rw [Sem.run_bind, this]; rfl
    · exact h.elim
  · split at h
    · rename_i h1 h2
      have := indexAddrS_ok (ids := ids) hT h w
      simp only [execOp, ev_ok ha h1, ev_ok ha h2]
      rw [Sem.run_bind, this]; rfl
    · exact h.elim
  · split at h
    · rename_i h1 h2
      have := indexS_ok (ids := ids) hT h w
      simp only [execOp, ev_ok ha h1, ev_ok ha h2]
      rw [Sem.run_bind, this]; rfl
    · exact h.elim
  · split at h
    · rename_i h1
      have := extractS_ok (P := P) (ids := ids) h w
      simp only [execOp, ev_ok ha h1]
      rw [Sem.run_bind, this]; rfl
    · exact h.elim
  · rename_i t ps
    split at h
    · rename_i vs h1
      have h2 := evAll_ok ha h1
      have := buildS_ok (ids := ids) hT he h (ps.map fun p => (p.1, a.eval p.2)) (by simpa using h2) w
      simp only [execOp]
      rw [Sem.run_bind]
      erw [this]; rfl
    · exact h.elim
  · split at h
    · rename_i h1
      cases h
      simp only [execOp, ev_ok ha h1, SV.den, LV.den]; rfl
    · rename_i h1
      cases h
      simp only [execOp, ev_ok ha h1, SV.den, LV.den]; rfl
    · exact h.elim
  · rename_i f caps
    split at h
    · rename_i cs h1
      cases h
      obtain ⟨vs, h2, h3⟩ := Option.bind_eq_some_iff.1 h1
      have h4 := evList_ok ha h2
      have h5 := capsOf_ok (ρ := ρ) (ids := ids) h3
      have h6 : caps.map a.eval = (cs.map fun c => Value.pointer (some ⟨idAt ids c.1, c.2, none⟩)).toArray := by
        apply Array.toList_inj.1
        simp only [Array.toList_map, h4, h5]
      simp only [execOp, h6, SV.den, LV.den]
      simp [Instr.makeFunc]
    · exact h.elim
  · split at h
    · rename_i k x k' y h1 h2
      split at h
      · rename_i hk
        subst hk
        cases h
        have e1 := ev_ok ha (evL_ev h1)
        have e2 := ev_ok ha (evL_ev h2)
        simp [execOp, resolve, invoke, builtin, Builtin.max_, Builtin.max2, e1, e2, SV.den, LV.den, IE.den]
        omega
      · exact h.elim
    · exact h.elim
  · split at h
    · rename_i k x k' y h1 h2
      split at h
      · rename_i hk
        subst hk
        cases h
        have e1 := ev_ok ha (evL_ev h1)
        have e2 := ev_ok ha (evL_ev h2)
        simp [execOp, resolve, invoke, builtin, Builtin.min_, Builtin.min2, e1, e2, SV.den, LV.den, IE.den]
        omega
      · exact h.elim
    · exact h.elim
  · split at h
    · rename_i h1
      have := lenS_ok (ids := ids) hT h type w
      simp only [execOp, resolve, invoke, builtin, Sem.run_bind, Sem.run_pure, Result.andThen_ok, List.map_toArray, List.map_cons, List.map_nil, ev_ok ha h1, this]
    · exact h.elim
  · exact h.elim
end
end Go.Eng
