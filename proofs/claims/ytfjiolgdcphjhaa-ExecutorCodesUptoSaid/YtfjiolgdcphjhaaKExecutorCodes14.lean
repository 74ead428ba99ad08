/- Part 14 of the texts of a proof about the given program: what the statement's proof needs of them. -/
import Derived.KernelRfl
import Derived.Test.YtfjiolgdcphjhaaKExecutorCodes13
namespace Go.Proofs.Ytfjiolgdcphjhaa
open Go.ChangeShapes Go.WideShapes Go.ChangeAt Go.RowKit Go.Syn Go.Eng
set_option linter.unusedVariables false
set_option linter.unusedSimpArgs false
set_option maxRecDepth 100000
def pSe (tt : Option Addr) (i : Nat) : Value := .pointer (some (((tt.getD ⟨0, 0, none⟩).add (i * 3)).add 0))
def fAsk (b : Nat) : Value := .func (.func 82) #[] #[.pointer (some ⟨b, 0, none⟩)]
theorem pureS_same {P : Program} {w : World} {b tb : Nat} {us : List Value} {R : Ending → World → Prop} {m : Mem} {ρ : Env} {ids : List Nat} {hx : HX} {w2 : World} (hf : Facts ⟨P, w, fun x => x = b, R⟩ m ρ ids hx w2) (h2 : Blk w2 b us tb) (h1 : Blk w b us tb) : Below w.heap.size w w2 := (hf.chg.same (h2.trans h1.symm)).below
theorem ask1_any (k : KpD) (b : Nat) (tt : Option Addr) (es : List SE) (i : Nat) (e : SE) (w : World) (hb : Blk w b [pSe tt i] 143) (Ht : Cells w tt (secells es)) (he : es[i]? = some e) (hne : blk tt ≠ b) : Calls Try.prog 82 #[.agg k.cells.toArray, .pointer (some ⟨b, 0, none⟩)] w (PureAt w (.bool (decide (k.seq ≤ e.s.ack)))) := by
  refine calls_at (tab_ok _) Try.func82 rfl tAsk1 (ρ := ⟨[k.seq, k.kind, k.re, k.im, (i : Int)], [], [], [], [tt]⟩) (ids := [b]) (hx := HX.cl tt (secells es)) (M := fun x => x = b) rfl (Facts.initx rfl oneNil hb (by kernel_rfl) rfl Ht (fun k hk => ⟨cl_sep Ht k hk, fun q => hne (by obtain ⟨_, q2⟩ := hk; rw [← q2, q])⟩)) ?_
  refine node_ldk ⟨[e.s.ack], [], [], [], []⟩ (fun _ => .pointer (some (((tt.getD ⟨0, 0, none⟩).add (i * 3)).add 1))) [.int .i64 e.s.ack] (by intros; kernel_rfl) (by intros; kernel_rfl) (fun ids w2 hp hf => (flat_part se_len hf.x he (o := 1) [.int .i64 e.s.ack] (fun j u hj => by cases j with | zero => exact hj | succ j => simp at hj) (by simp)).2 _ (fun q => q)) (by kernel_rfl) oneNil ?_
  intro ids w2 hp hf
  have e0 := hf.blkAt 0 rfl
  rw [idAt0 hp] at e0
  exact ⟨by kernel_rfl, pureS_same hf e0 hb⟩
theorem tw_of {α : Type} {q : α → Bool} {l : List α} : ∀ {i : Nat}, i ≤ l.length → (∀ (x : Nat) (k : α), x < i → l[x]? = some k → q k = true) → (∀ k, l[i]? = some k → q k = false) → (l.takeWhile q).length = i := by
  induction l with
  | nil => intro i h _ _; simp at h; subst h; rfl
  | cons k r ih =>
    intro i h h1 h2
    cases i with
    | zero => rw [List.takeWhile_cons, h2 k rfl]; rfl
    | succ i =>
      rw [List.takeWhile_cons, h1 0 k (Nat.zero_lt_succ _) rfl]
      show (r.takeWhile _).length + 1 = i + 1
      rw [ih (i := i) (by rw [List.length_cons] at h; omega) (fun x y hx hy => h1 (x + 1) y (by omega) (by simpa using hy)) (fun y hy => h2 y (by simpa using hy))]
def live (ack : Int) (k : KpD) : Bool := decide (ack < k.seq)
def fstI (ack : Int) (l : List KpD) : Nat := (l.takeWhile (live ack)).length
def IdI (ack : Int) (l : List KpD) (hx0 : HX) (vs : Vals) (hx : HX) : Prop := ∃ j : Nat, j ≤ l.length ∧ (∀ (x : Nat) (k : KpD), x < j → l[x]? = some k → live ack k = true) ∧ vs = ⟨[(j : Int)], [], [], [], []⟩ ∧ hx = hx0
theorem idxk_any (a : Option Addr) (cap : Nat) (l : List KpD) (b : Nat) (tt : Option Addr) (es : List SE) (i : Nat) (e : SE) (w : World) (H : Cells w a (kcells l)) (hl : l.length ≤ 1000000) (hb : Blk w b [pSe tt i] 143) (Ht : Cells w tt (secells es)) (he : es[i]? = some e) (hne : blk tt ≠ b) (hna : l ≠ [] → blk a ≠ b) :
    Calls Try.prog 102 #[.slice a l.length cap, fAsk b] w (PureAt w (.int .i64 (if fstI e.s.ack l = l.length then -1 else (fstI e.s.ack l : Int)))) := by
  refine calls_at (tab_ok _) Try.func102 rfl tIdxK (ρ := ⟨[(i : Int)], [], [], [l.length, cap], [a, tt]⟩) (ids := [b]) (hx := (HX.cl tt (secells es)).and (HX.cl a (kcells l))) (M := fun x => x = b) rfl (Facts.initx rfl oneNil hb (by kernel_rfl) rfl ⟨Ht, H⟩ (fun k hk => ?_)) ?_
  · rcases hk with hk | hk
    · exact ⟨cl_sep Ht k hk, fun q => hne (by obtain ⟨_, q2⟩ := hk; rw [← q2, q])⟩
    · exact ⟨cl_sep H k hk, fun q => by obtain ⟨q1, q2⟩ := hk; exact hna (fun z => q1 (by rw [z]; rfl)) (by rw [← q2, q])⟩
  refine loop_i (IdI e.s.ack l ((HX.cl tt (secells es)).and (HX.cl a (kcells l)))) (fun vs => l.length - (vs.i.headD 0).toNat) (fun ids w2 hp hf => ⟨_, ⟨hf.x, hf.sep⟩, 0, Nat.zero_le _, fun x k h => absurd h (Nat.not_lt_zero _), rfl, rfl⟩) ?_
  rintro vs hx' hcnt ⟨j, hj, h1, rfl, rfl⟩
  by_cases hlt : j < l.length
  · refine br_T (decide ((j : Int) < (l.length : Int))) (by kernel_rfl) (decide_eq_true (by omega)) ?_
    have hwk : IntKind.i64.wrap ((j : Int) + 1) = ((j + 1 : Nat) : Int) := by rw [wrap_i64 (by omega)]; omega
    obtain ⟨k, hk⟩ : ∃ k, l[j]? = some k := ⟨_, List.getElem?_eq_getElem hlt⟩
    have hkc : ∀ (j : Nat) (u : Value), k.cells[j]? = some u → k.cells[0 + j]? = some u := fun j u hj => by rw [Nat.zero_add]; exact hj
    obtain ⟨s1, q1⟩ := flat_part kp_len H hk (o := 0) k.cells hkc (by simp [KpD.cells])
    refine need_k (a.isSome = true ∧ (0 : Int) ≤ j ∧ (j : Int) < l.length) (by kernel_rfl) ⟨s1, by omega, by omega⟩ ?_
    refine node_ldk ⟨[k.seq, k.kind, k.re, k.im], [], [], [], []⟩ (fun _ => .pointer (some (((a.getD ⟨0, 0, none⟩).add (j * 4)).add 0))) k.cells (by intros; kernel_rfl) (by intros; kernel_rfl) (fun ids w2 hp hf => (flat_part kp_len hf.x.2 hk (o := 0) k.cells hkc (by simp [KpD.cells])).2 _ (fun q => q)) (by kernel_rfl) oneNil ?_
    refine node_PI ⟨[], [decide (k.seq ≤ e.s.ack)], [], [], []⟩ (fun ids => #[.agg k.cells.toArray, .pointer (some ⟨idAt ids 0, 0, none⟩)]) (.bool (decide (k.seq ≤ e.s.ack))) (by intros; kernel_rfl) (by intros; kernel_rfl) (by kernel_rfl) (by kernel_rfl) (by kernel_rfl) oneNil (fun ids w2 hp hf => ask1_any k (idAt ids 0) tt es i e w2 (hf.blkAt 0 rfl) hf.x.1 he (by rw [idAt0 hp]; exact hne)) ?_
    by_cases hc : k.seq ≤ e.s.ack
    · refine br_T (decide (k.seq ≤ e.s.ack)) (by kernel_rfl) (decide_eq_true hc) ?_
      have hfi : fstI e.s.ack l = j := tw_of hj h1 (fun k' h => by rw [hk] at h; cases h; exact decide_eq_false (by omega))
      rw [hfi, if_neg (by omega)]
      intro ids w2 hp hf
      have e0 := hf.blkAt 0 rfl
      rw [idAt0 hp] at e0
      exact ⟨by kernel_rfl, pureS_same hf e0 hb⟩
    · refine br_F (decide (k.seq ≤ e.s.ack)) (by kernel_rfl) (decide_eq_false hc) ?_
      refine again_V ⟨[((j + 1 : Nat) : Int)], [], [], [], []⟩ rfl (fun ids => Eq.trans (b := ⟨[IntKind.i64.wrap ((j : Int) + 1)], [], [], [], []⟩) (by kernel_rfl) (by rw [hwk])) _ (fun w2 ids hf => ⟨hf.x, hf.sep⟩) ⟨⟨j + 1, by omega, fun x k' hx hk' => ?_, rfl, rfl⟩, ?_⟩
      · rcases Nat.lt_or_ge x j with q | q
        · exact h1 x k' q hk'
        · have : x = j := by omega
          subst this; rw [hk] at hk'; cases hk'; exact decide_eq_true (by omega)
      · show l.length - (((j + 1 : Nat) : Int)).toNat < l.length - ((j : Int)).toNat
        omega
  · refine br_F (decide ((j : Int) < (l.length : Int))) (by kernel_rfl) (decide_eq_false (by omega)) ?_
    have hfi : fstI e.s.ack l = l.length := tw_of (Nat.le_refl _) (fun x k hx hk => h1 x k (by omega) hk) (fun k h => by rw [List.getElem?_eq_none (Nat.le_refl _)] at h; cases h)
    rw [if_pos hfi]
    intro ids w2 hp hf
    have e0 := hf.blkAt 0 rfl
    rw [idAt0 hp] at e0
    exact ⟨by kernel_rfl, pureS_same hf e0 hb⟩
def DelR (w : World) (a : Option Addr) (cap b : Nat) (pc : Value) (l : List KpD) (r : Ending) (w' : World) : Prop := r = .returned (.slice a l.length cap) ∧ (HX.rw 4 116 a l.length cap (kcells l)).X w' ∧ Blk w' b [pc] 143 ∧ Chg (fun x => x = b ∨ (cap ≠ 0 ∧ abk a = some x)) w w'
def DlI (ack : Int) (l : List KpD) (hx0 : HX) (a : Option Addr) (cap : Nat) (vs : Vals) (hx : HX) : Prop := ∃ (i j : Nat) (X : List KpD), i < j ∧ j ≤ l.length ∧ X.length = l.length ∧ X.take i = (l.take j).filter (live ack) ∧ X.drop j = l.drop j ∧
  vs = ⟨[(i : Int), (j : Int)], [], [], [], []⟩ ∧ hx = hx0.and (HX.rw 4 116 a l.length cap (kcells X))
theorem filter_all {α : Type} {q : α → Bool} {l : List α} (h : (l.takeWhile q).length = l.length) : l.filter q = l := by
  induction l with
  | nil => rfl
  | cons x r ih =>
    rw [List.takeWhile_cons] at h
    split at h
    · rename_i hq
      rw [List.filter_cons, if_pos hq, ih (by simpa using h)]
    · simp at h
theorem take_tw {α : Type} {q : α → Bool} (l : List α) : (l.take (l.takeWhile q).length).filter q = l.take (l.takeWhile q).length := by
  induction l with
  | nil => rfl
  | cons x r ih =>
    rw [List.takeWhile_cons]
    split
    · rename_i hq
      rw [List.length_cons, List.take_succ_cons, List.filter_cons, if_pos hq, ih]
    · rfl
set_option maxHeartbeats 1000000 in
theorem delk_any (a : Option Addr) (cap : Nat) (l : List KpD) (b : Nat) (tt : Option Addr) (es : List SE) (i : Nat) (e : SE) (w : World) (H : (HX.rw 4 116 a l.length cap (kcells l)).X w) (hl : l.length ≤ 1000000) (hb : Blk w b [pSe tt i] 143) (Ht : Cells w tt (secells es)) (he : es[i]? = some e) (hne : blk tt ≠ b) (hna : ∀ k, cap ≠ 0 → abk a = some k → k ≠ b ∧ ¬ (HX.cl tt (secells es)).F k) :
    Calls Try.prog 81 #[.slice a l.length cap, fAsk b] w (DelR w a cap b (pSe tt i) (l.filter (live e.s.ack))) := by
  refine calls_at (tab_ok _) Try.func81 rfl tDelK (ρ := ⟨[(i : Int)], [], [], [l.length, cap], [a, tt]⟩) (ids := [b]) (hx := (HX.cl tt (secells es)).and (HX.rw 4 116 a l.length cap (kcells l))) (M := fun x => x = b ∨ (cap ≠ 0 ∧ abk a = some x)) rfl (Facts.initx rfl oneNil hb (by kernel_rfl) (.inl rfl) ⟨Ht, H⟩ (fun k hk => ?_)) ?_
  · rcases hk with hk | hk
    · exact ⟨cl_sep Ht k hk, fun q => hne (by obtain ⟨_, q2⟩ := hk; rw [← q2, q])⟩
    · exact ⟨rw_blt H hk.1 hk.2, (hna k hk.1 hk.2).1⟩
  obtain ⟨ack, eack⟩ : ∃ x, x = e.s.ack := ⟨_, rfl⟩
  rw [← eack]
  have hlen := rw_le H
  have cellsne : ∀ {X : List KpD} {w2 : World}, X.length = l.length → (HX.rw 4 116 a l.length cap (kcells X)).X w2 → X ≠ [] → blk a ≠ b := fun {X w2} hX hx hne2 => by
    have hc : cap ≠ 0 := by
      have := (rw_le hx).1
      have : X.length ≠ 0 := fun q => hne2 (List.eq_nil_of_length_eq_zero q)
      omega
    obtain ⟨g, _, rfl, _⟩ := rw_open hx hc
    exact (hna g hc rfl).1
  have fin : ∀ {ρ : Env} {ids : List Nat} {w2 : World} {R : Ending → World → Prop} {v : SV} {l' : List KpD} {c : Cnt}, [b] <+: ids → Facts ⟨Try.prog, w, fun x => x = b ∨ (cap ≠ 0 ∧ abk a = some x), R⟩ ⟨[(143, [.adr 1 (.var 0) 3 0])], c⟩ ρ ids ((HX.cl tt (secells es)).and (HX.rw 4 116 a l'.length cap (kcells l'))) w2 → v.den ρ ids = .slice a l'.length cap → cellsDen ρ ids [.adr 1 (.var 0) 3 0] = [pSe tt i] → DelR w a cap b (pSe tt i) l' (.returned (v.den ρ ids)) w2 := fun hp hf hv hc => by
    have e0 := hf.blkAt 0 rfl
    rw [idAt0 hp, hc] at e0
    exact ⟨by rw [hv], hf.x.2, e0, hf.chg⟩
  refine node_PI ⟨[if fstI ack l = l.length then -1 else (fstI ack l : Int)], [], [], [], []⟩ (fun ids => #[.slice a l.length cap, fAsk (idAt ids 0)]) (.int .i64 (if fstI ack l = l.length then -1 else (fstI ack l : Int))) (by intros; kernel_rfl) (by intros; kernel_rfl) (by kernel_rfl) (by kernel_rfl) (by kernel_rfl) oneNil (fun ids w2 hp hf => by rw [eack]; exact idxk_any a cap l (idAt ids 0) tt es i e w2 (rw_cells hf.x.2) hl (hf.blkAt 0 rfl) hf.x.1 he (by rw [idAt0 hp]; exact hne) (by rw [idAt0 hp]; exact cellsne rfl hf.x.2)) ?_
  by_cases hf0 : fstI ack l = l.length
  · refine br_T ((if fstI ack l = l.length then (-1 : Int) else (fstI ack l : Int)) == -1) (by kernel_rfl) (by rw [if_pos hf0]; rfl) ?_
    rw [show l.filter (live ack) = l from filter_all hf0]
    intro ids w2 hp hf
    exact fin hp hf (by kernel_rfl) (by kernel_rfl)
  refine br_F ((if fstI ack l = l.length then (-1 : Int) else (fstI ack l : Int)) == -1) (by kernel_rfl) (by rw [if_neg hf0]; exact beq_eq_false_iff_ne.2 (by omega)) ?_
  obtain ⟨m, em⟩ : ∃ m, m = fstI ack l := ⟨_, rfl⟩
  have hm : m < l.length := by
    have h2 : fstI ack l ≤ l.length := (List.takeWhile_sublist (live ack) (l := l)).length_le
    omega
  have hcap : cap ≠ 0 := by omega
  have hk0 : ∀ k, l[m]? = some k → live ack k = false := fun k hk => by
    have h1 := List.getElem?_eq_some_iff.1 hk
    have : ∀ (l : List KpD), (l.takeWhile (live ack)).length < l.length → ∀ k, l[(l.takeWhile (live ack)).length]? = some k → live ack k = false := fun l => by
      induction l with
      | nil => intro h; simp at h
      | cons x r ih =>
        intro h k hk
        rw [List.takeWhile_cons] at h hk
        split at h
        · rename_i hq
          rw [if_pos hq, List.length_cons, List.getElem?_cons_succ] at hk
          exact ih (by simpa using h) k hk
        · rename_i hq
          rw [if_neg hq] at hk
          simp at hk
          subst hk
          simpa using hq
    exact this l (by rw [show (l.takeWhile (live ack)).length = m from em.symm]; exact hm) k (by rw [show (l.takeWhile (live ack)).length = m from em.symm]; exact hk)
  have hst : l.take m = (l.take (m + 1)).filter (live ack) := by
    obtain ⟨k, hk⟩ : ∃ k, l[m]? = some k := ⟨_, List.getElem?_eq_getElem hm⟩
    rw [List.take_add_one, hk, List.filter_append]
    have h1 : [k].filter (live ack) = [] := by rw [List.filter_cons, if_neg (by rw [hk0 k hk]; decide)]; rfl
    show _ = _ ++ [k].filter (live ack)
    rw [h1, List.append_nil, em]
    exact (take_tw l).symm
  have hdis : ∀ k, cap ≠ 0 → abk a = some k → ¬ (HX.cl tt (secells es)).F k := fun k h1 h2 => (hna k h1 h2).2
  refine loop_i (DlI ack l (HX.cl tt (secells es)) a cap) (fun vs => l.length - (vs.i.getD 1 0).toNat) (fun ids w2 hp hf => ⟨_, ⟨hf.x, hf.sep⟩, m, m + 1, l, by omega, by omega, rfl, hst, rfl, ?_, rfl⟩) ?_
  · refine Eq.trans (b := ⟨[if fstI ack l = l.length then (-1 : Int) else (fstI ack l : Int), IntKind.i64.wrap ((if fstI ack l = l.length then (-1 : Int) else (fstI ack l : Int)) + 1)], [], [], [], []⟩) (by kernel_rfl) ?_
    rw [if_neg hf0, ← em, wrap_i64 (by omega)]; rfl
  rintro vs hx' hcnt ⟨i2, j, X, hij, hj, hX, ht, hd, rfl, rfl⟩
  refine holds_env (ρ' := ⟨[(i : Int), (if fstI ack l = l.length then -1 else (fstI ack l : Int)), (i2 : Int), (j : Int)], [], [], [l.length, cap], [a, tt]⟩) (by kernel_rfl) ?_
  by_cases hlt : j < l.length
  · refine br_T (decide ((j : Int) < (l.length : Int))) (by kernel_rfl) (decide_eq_true (by omega)) ?_
    have hwj : IntKind.i64.wrap ((j : Int) + 1) = ((j + 1 : Nat) : Int) := by rw [wrap_i64 (by omega)]; omega
    have hwi : IntKind.i64.wrap ((i2 : Int) + 1) = ((i2 + 1 : Nat) : Int) := by rw [wrap_i64 (by omega)]; omega
    obtain ⟨k, hk⟩ : ∃ k, l[j]? = some k := ⟨_, List.getElem?_eq_getElem hlt⟩
    have hXk : X[j]? = some k := by
      have h1 : (X.drop j)[0]? = (l.drop j)[0]? := by rw [hd]
      rw [List.getElem?_drop, List.getElem?_drop, Nat.add_zero] at h1
      rw [h1]; exact hk
    have hkc : ∀ (j : Nat) (u : Value), k.cells[j]? = some u → k.cells[0 + j]? = some u := fun j u hj => by rw [Nat.zero_add]; exact hj
    have hsm : a.isSome = true := by
      obtain ⟨g, _, e1, _⟩ := rw_open H hcap
      rw [e1]; rfl
    refine need_k (a.isSome = true ∧ (0 : Int) ≤ j ∧ (j : Int) < l.length) (by kernel_rfl) ⟨hsm, by omega, by omega⟩ ?_
    refine node_ldk ⟨[k.seq, k.kind, k.re, k.im], [], [], [], []⟩ (fun _ => .pointer (some (((a.getD ⟨0, 0, none⟩).add (j * 4)).add 0))) k.cells (by intros; kernel_rfl) (by intros; kernel_rfl) (fun ids w2 hp hf => (flat_part kp_len (rw_cells hf.x.2) hXk (o := 0) k.cells hkc (by simp [KpD.cells])).2 _ (fun q => q)) (by kernel_rfl) oneNil ?_
    refine node_PI ⟨[], [decide (k.seq ≤ ack)], [], [], []⟩ (fun ids => #[.agg k.cells.toArray, .pointer (some ⟨idAt ids 0, 0, none⟩)]) (.bool (decide (k.seq ≤ ack))) (by intros; kernel_rfl) (by intros; kernel_rfl) (by kernel_rfl) (by kernel_rfl) (by kernel_rfl) oneNil (fun ids w2 hp hf => by rw [eack]; exact ask1_any k (idAt ids 0) tt es i e w2 (hf.blkAt 0 rfl) hf.x.1 he (by rw [idAt0 hp]; exact hne)) ?_
    by_cases hc : k.seq ≤ ack
    · refine br_F (!(decide (k.seq ≤ ack))) (by kernel_rfl) (by rw [decide_eq_true hc]; rfl) ?_
      refine again_V ⟨[(i2 : Int), ((j + 1 : Nat) : Int)], [], [], [], []⟩ rfl (fun ids => Eq.trans (b := ⟨[(i2 : Int), IntKind.i64.wrap ((j : Int) + 1)], [], [], [], []⟩) (by kernel_rfl) (by rw [hwj])) _ (fun w2 ids hf => ⟨hf.x, hf.sep⟩) ⟨⟨i2, j + 1, X, by omega, by omega, hX, ?_, ?_, rfl, rfl⟩, ?_⟩
      · have h1 : [k].filter (live ack) = [] := by rw [List.filter_cons, if_neg (by unfold live; rw [decide_eq_false (by omega)]; decide)]; rfl
        rw [List.take_add_one, hk, List.filter_append, ht]
        show _ = _ ++ [k].filter (live ack)
        rw [h1, List.append_nil]
      · rw [← List.drop_drop, hd, List.drop_drop]
      · show l.length - (((j + 1 : Nat) : Int)).toNat < l.length - ((j : Int)).toNat
        omega
    · refine br_T (!(decide (k.seq ≤ ack))) (by kernel_rfl) (by rw [decide_eq_false hc]; rfl) ?_
      refine need_k (a.isSome = true ∧ (0 : Int) ≤ i2 ∧ (i2 : Int) < l.length) (by kernel_rfl) ⟨hsm, by omega, by omega⟩ ?_
      obtain ⟨x, hx⟩ : ∃ x, X[i2]? = some x := ⟨_, List.getElem?_eq_getElem (by omega)⟩
      refine node_stores (sz := 4) a l.length cap (kcells X) k.cells i2 0 (.agg k.cells.toArray) (by kernel_rfl) (by intros; kernel_rfl) (by intros; kernel_rfl) rfl (fun v hv => by simp [KpD.cells] at hv; rcases hv with rfl | rfl | rfl | rfl <;> rfl) (by rw [kp_len]; omega) (by rw [kp_len]; decide) hdis (fun q h1 h2 => .inr (.inr ⟨h1, h2⟩)) (by kernel_rfl) (by kernel_rfl) (by kernel_rfl) ?_
      rw [show spl (kcells X) (i2 * 4 + 0) k.cells = kcells (X.set i2 k) from flat_spl kp_len hx (by rw [kp_len]; decide) (by
        unfold spl
        rw [List.take_zero, List.nil_append, List.drop_of_length_le (by rw [kp_len, kp_len]; decide), List.append_nil])]
      refine again_V ⟨[((i2 + 1 : Nat) : Int), ((j + 1 : Nat) : Int)], [], [], [], []⟩ rfl (fun ids => Eq.trans (b := ⟨[IntKind.i64.wrap ((i2 : Int) + 1), IntKind.i64.wrap ((j : Int) + 1)], [], [], [], []⟩) (by kernel_rfl) (by rw [hwj, hwi])) _ (fun w2 ids hf => ⟨hf.x, hf.sep⟩) ⟨⟨i2 + 1, j + 1, X.set i2 k, by omega, by omega, by rw [List.length_set]; exact hX, ?_, ?_, rfl, rfl⟩, ?_⟩
      · have h1 : [k].filter (live ack) = [k] := by rw [List.filter_cons, if_pos (by unfold live; exact decide_eq_true (by omega))]; rfl
        rw [List.take_add_one, List.getElem?_set_self (by omega), List.take_set_of_le (Nat.le_refl _), ht, List.take_add_one, hk, List.filter_append]
        show _ = _ ++ [k].filter (live ack)
        rw [h1]; rfl
      · rw [List.drop_set_of_lt (by omega), ← List.drop_drop, hd, List.drop_drop]
      · show l.length - (((j + 1 : Nat) : Int)).toNat < l.length - ((j : Int)).toNat
        omega
  · refine br_F (decide ((j : Int) < (l.length : Int))) (by kernel_rfl) (decide_eq_false (by omega)) ?_
    obtain rfl : j = l.length := by omega
    rw [List.take_length] at ht
    have hlf : (l.filter (live ack)).length = i2 := by rw [← ht, List.length_take]; omega
    refine node_from (l := i2) (n := l.length) (cap := cap) (sz := 4) a Try.underlying112 (by kernel_rfl) info_kp (by intros; kernel_rfl) (by intros; kernel_rfl) (by omega) (by intros; kernel_rfl) (by kernel_rfl) (by kernel_rfl) (by kernel_rfl) ?_
    refine node_clear_rw (z := .agg #[.int .i64 0, .int .i64 0, .int .i64 0, .int .i64 0]) (sz := 4) (e := 116) rfl Try.underlying112 info_kp rfl (by decide) (fun v hv => by simp [Value.cells] at hv; subst hv; rfl) a l.length cap i2 (kcells X) (by omega) (by intros; kernel_rfl) hdis (fun q h1 h2 => .inr (.inr ⟨h1, h2⟩)) (by intros; kernel_rfl) (by kernel_rfl) (by kernel_rfl) (by kernel_rfl) ?_
    refine node_upto (u := i2) (n := l.length) (cap := cap) (sz := 4) a Try.underlying112 (by kernel_rfl) info_kp (by intros; kernel_rfl) (by intros; kernel_rfl) (fun ids w2 hf => (rw_le hf.x.2).1) (by intros; kernel_rfl) (by kernel_rfl) (by kernel_rfl) (by kernel_rfl) ?_
    have ha0 : sliA a 0 cap 4 = a := by
      unfold sliA
      rw [if_neg hcap]
      obtain ⟨g, _, e1, _⟩ := rw_open H hcap
      rw [e1]
      show some ((⟨g, 0, none⟩ : Addr).add (0 * 4)) = _
      rw [Go.WideShapes.add_plain]
    refine holds_eq (show _ = (HX.cl tt (secells es)).and (HX.rw 4 116 a (l.filter (live ack)).length cap (kcells (l.filter (live ack)))) from by rw [hlf, ← ht]; unfold kcells; rw [flat_take kp_len]) ?_
    intro ids w2 hp hf
    refine fin hp hf ?_ (by kernel_rfl)
    rw [hlf]
    refine Eq.trans (b := .slice (sliA a 0 cap 4) i2 cap) (by kernel_rfl) (by rw [ha0])
end Go.Proofs.Ytfjiolgdcphjhaa

namespace Go.Proofs.Ytfjiolgdcphjhaa
open Go.Eng
abbrev tTAskJb0 : List LV := [(tVi 0), (tVi 1), (tVi 2), (tVi 3), (tVi 4), (tVi 5), (tVi 6), (tVi 7)]
abbrev tTAskJm0 : Mem := ⟨[(52, tTAskJb0), (54, [(tLi 0), (tLi 0), (tLi 0)]), (114, [(tVi 0), (tLi 0), .nilsl])], ⟨9, 1, 0, 6, 3⟩⟩
abbrev tTAskJm1 : Mem := ⟨[(52, tTAskJb0), (54, [(tLi 0), (tLi 0), (tLi 0)]), (143, [(.adr 2 (.var 8) 3 0)])], ⟨10, 1, 0, 10, 5⟩⟩
abbrev tTAskJm2 : Mem := ⟨[(52, tTAskJb0), (54, [(tLi 0), (tLi 0), (tLi 0)]), (143, [(.adr 2 (.var 8) 3 0)])], ⟨11, 1, 0, 10, 5⟩⟩
abbrev tTAskJm3 : Mem := ⟨[(52, tTAskJb0), (54, [(tLi 0), (tLi 0), (tLi 0)]), (143, [(.adr 2 (.var 8) 3 0)])], ⟨11, 1, 0, 12, 6⟩⟩
abbrev tTAskJm4 : Mem := ⟨[(52, tTAskJb0), (54, [(tLi 0), (tLi 0), (tLi 0)]), (143, [(.adr 2 (.var 8) 3 0)])], ⟨12, 2, 0, 12, 6⟩⟩
abbrev tTAskJm5 : Mem := ⟨[(52, tTAskJb0), (54, [(tLi 0), (tLi 0), (tLi 0)]), (143, [(.adr 2 (.var 8) 3 0)])], ⟨12, 2, 0, 14, 7⟩⟩
abbrev tTAskJm6 : Mem := ⟨[(52, tTAskJb0), (54, [(tLi 0), (tLi 0), (tLi 0)]), (143, [(.adr 2 (.var 8) 3 0)])], ⟨10, 1, 0, 6, 3⟩⟩
abbrev tTAskJm7 : Mem := ⟨[(52, tTAskJb0), (54, [(tLi 0), (tLi 0), (tLi 0)]), (143, [(.adr 2 (.var 8) 3 0)])], ⟨10, 1, 0, 8, 4⟩⟩
abbrev tTAskJm8 : Mem := ⟨[(52, tTAskJb0), (54, [(tLi 0), (tLi 0), (tLi 0)])], ⟨8, 0, 0, 4, 2⟩⟩
abbrev tTAskJm9 : Mem := ⟨[(52, tTAskJb0), (54, [(tLi 0), (tLi 0), (tLi 0)])], ⟨9, 1, 0, 4, 2⟩⟩
set_option maxRecDepth 100000 in
theorem tTAskJ : (runF ⟨tt, fns, {cur := [1, 2, 3, 4, 5, 6, 7, 8], joins := [(7, ⟨[(0, .sl)], []⟩)]}⟩ (Try.f54.body.getD .skip) Try.f54.results.toList (entry Try.f54.ntmps [.lf (.sl 0 (.var 0) (.var 1)), .agg [.int .i64 (.var 0), .int .i64 (.var 1), .int .i64 (.var 2), .int .i64 (.var 3), .int .i64 (.var 4), .int .i64 (.var 5), .int .i64 (.var 6), .int .i64 (.var 7)]] [] ⟨8, 0, 0, 2, 1⟩)) =
  (.call 56 [(.lf (tSl 0 0 1))] ⟨[(52, tTAskJb0), (54, [(tLi 0), (tLi 0), (tLi 0)])], ⟨8, 0, 0, 2, 1⟩⟩ (.lf (tSl 1 2 3)) tTAskJm8 (.call 78 [(.lf (tSl 1 2 3)), (.lf (tVi 0)), (.lf (.fnv 79 []))] tTAskJm8 (.tup [(.false, [(tVi 8)]), (.false, [(.bool (.var 0))])]) tTAskJm9 (.join 7 tTAskJm9 ⟨[(52, tTAskJb0), (54, [(tLi 0), (tLi 0), (tLi 0)])], ⟨9, 1, 0, 6, 3⟩⟩ (.br (.not (.var 0)) (.br (.cmp .geq (.nat 2) (.lit 16)) (.done (.tup [(.false, [(tSl 1 2 3)]), (.true, [(tLi 5), (tLi 0), (tLi 0)]), (.false, [(.bool (.lit .true))])]) ⟨[(52, tTAskJb0), (54, [(tLi 5), (tLi 0), (tLi 0)])], ⟨9, 1, 0, 4, 2⟩⟩) (.call 80 [(.lf (tSl 1 2 3)), (.lf (tVi 8)), (.lf (.nsl 2 0 1 1))] ⟨[(52, tTAskJb0), (54, [(tLi 0), (tLi 0), (tLi 0)]), (114, [(tVi 0), (tLi 0), .nilsl])], ⟨9, 1, 0, 4, 2⟩⟩ (.lf (tSl 2 4 5)) tTAskJm0 (.again 7 ⟨[], [], [], [(.var 4), (.var 5)], [(.var 2)]⟩ tTAskJm0))) (.again 7 ⟨[], [], [], [(.var 2), (.var 3)], [(.var 1)]⟩ tTAskJm9)) (.need (.inb 2 (.var 8) (.nat 4)) (.ld .true (.adr 2 (.var 8) 3 1) [(tVi 9)] ⟨[(52, tTAskJb0), (54, [(tLi 0), (tLi 0), (tLi 0)]), (143, [(.adr 2 (.var 8) 3 0)])], ⟨9, 1, 0, 6, 3⟩⟩ tTAskJm6 (.gen (.store 3 (.tmp 46) (.tmp 44)) 0 [(46, (.lf (.adr 2 (.var 8) 3 1))), (44, (.lf (.int .i64 (.mx (.var 9) (.var 2)))))] tTAskJm6 .none tTAskJm6 (.ld .true (.adr 2 (.var 8) 3 2) [(tSl 3 6 7)] tTAskJm6 tTAskJm7 (.call 81 [(.lf (tSl 3 6 7)), (.lf (.fnv 82 [(2, 0)]))] tTAskJm7 (.lf (tSl 4 8 9)) tTAskJm1 (.gen (.store 112 (.tmp 55) (.tmp 53)) 0 [(55, (.lf (.adr 2 (.var 8) 3 2))), (53, (.lf (tSl 4 8 9)))] tTAskJm1 .none tTAskJm1 (.ld .true (.adr 2 (.var 8) 3 1) [(tVi 10)] tTAskJm1 tTAskJm2 (.br (.cmp .leq (.var 1) (.var 10)) (.done (.tup [(.false, [(tSl 2 4 5)]), (.true, [(tLi 4), (tLi 0), (tLi 0)]), (.false, [(.bool (.lit .true))])]) ⟨[(52, tTAskJb0), (54, [(tLi 4), (tLi 0), (tLi 0)]), (143, [(.adr 2 (.var 8) 3 0)])], ⟨11, 1, 0, 10, 5⟩⟩) (.ld .true (.adr 2 (.var 8) 3 2) [(tSl 5 10 11)] tTAskJm2 tTAskJm3 (.call 83 [(.lf (tSl 5 10 11)), (.lf (tVi 1)), (.lf (.fnv 84 []))] tTAskJm3 (.tup [(.false, [(tVi 11)]), (.false, [(.bool (.var 1))])]) tTAskJm4 (.br (.var 1) (.ld .true (.adr 2 (.var 8) 3 2) [(tSl 6 12 13)] tTAskJm4 tTAskJm5 (.need (.inb 6 (.var 11) (.nat 12)) (.ld .true (.adr 6 (.var 11) 4 1) [(tVi 12), (tVi 13), (tVi 14)] tTAskJm5 ⟨[(52, tTAskJb0), (54, [(tLi 0), (tLi 0), (tLi 0)]), (143, [(.adr 2 (.var 8) 3 0)])], ⟨15, 2, 0, 14, 7⟩⟩ (.done (.tup [(.false, [(tSl 2 4 5)]), (.true, [(tVi 12), (tVi 13), (tVi 14)]), (.false, [(.bool (.lit .true))])]) ⟨[(52, tTAskJb0), (54, [(tVi 12), (tVi 13), (tVi 14)]), (143, [(.adr 2 (.var 8) 3 0)])], ⟨15, 2, 0, 14, 7⟩⟩)))) (.ld .true (.adr 2 (.var 8) 3 2) [(tSl 6 12 13)] tTAskJm4 tTAskJm5 (.br (.cmp .geq (.nat 12) (.lit 8)) (.done (.tup [(.false, [(tSl 2 4 5)]), (.true, [(tLi 6), (tLi 0), (tLi 0)]), (.false, [(.bool (.lit .true))])]) ⟨[(52, tTAskJb0), (54, [(tLi 6), (tLi 0), (tLi 0)]), (143, [(.adr 2 (.var 8) 3 0)])], ⟨12, 2, 0, 14, 7⟩⟩) (.done (.tup [(.false, [(tSl 2 4 5)]), (.true, [(tLi 0), (tLi 0), (tLi 0)]), (.false, [(.bool (.lit .false))])]) tTAskJm5))))))))))))))))) := by kernel_rfl
end Go.Proofs.Ytfjiolgdcphjhaa

namespace Go.Proofs.Ytfjiolgdcphjhaa
open Go.Eng
abbrev tRCopym0 : Mem := ⟨[(114, []), (114, [(tVi 1), (tVi 2), (tSl 4 8 9)]), (116, []), (114, [(tVi 1), (tVi 2), (tSl 4 8 9)])], ⟨3, 0, 0, 12, 6⟩⟩
abbrev tRCopym1 : Mem := ⟨[(114, []), (114, [(tVi 1), (tVi 2), (tSl 2 4 5)]), (116, [])], ⟨3, 0, 0, 8, 4⟩⟩
set_option maxRecDepth 100000 in
theorem tRCopy : (runF ⟨tt, fns, {cur := [1], loops := [(3, ⟨[(9, .int .i64), (3, .sl)], []⟩)]}⟩ (Try.f33.body.getD .skip) Try.f33.results.toList (entry Try.f33.ntmps [.lf (.sl 0 (.var 0) (.var 1))] [] ⟨0, 0, 0, 2, 1⟩)) =
  (.loop 3 ⟨[(.lit 0)], [], [], [(.lit 0), (.lit 0)], [(.nm 0 0)]⟩ ⟨[(114, [])], ⟨0, 0, 0, 2, 1⟩⟩ ⟨[(114, [])], ⟨1, 0, 0, 4, 2⟩⟩ (.br (.cmp .lss (.var 0) (.nat 0)) (.need (.inb 0 (.var 0) (.nat 0)) (.ld .false (.adr 0 (.var 0) 3 0) [(tVi 1), (tVi 2), (tSl 2 4 5)] ⟨[(114, [])], ⟨1, 0, 0, 4, 2⟩⟩ ⟨[(114, [])], ⟨3, 0, 0, 6, 3⟩⟩ (.need (.inb 0 (.var 0) (.nat 0)) (.ld .false (.adr 0 (.var 0) 3 2) [(tSl 3 6 7)] ⟨[(114, []), (114, [(tVi 1), (tVi 2), (tSl 2 4 5)]), (116, [])], ⟨3, 0, 0, 6, 3⟩⟩ tRCopym1 (.gen (.call ⟨(.builtin .append), #[(.tmp 16), (.tmp 21)], #[112, 112]⟩) 112 [(16, (.lf (.nsl 2 0 0 0))), (21, (.lf (tSl 3 6 7)))] tRCopym1 (.some (.lf (tSl 4 8 9))) ⟨[(114, []), (114, [(tVi 1), (tVi 2), (tSl 2 4 5)]), (116, [])], ⟨3, 0, 0, 10, 5⟩⟩ (.gen (.call ⟨(.builtin .append), #[(.tmp 24), (.tmp 26)], #[26, 26]⟩) 26 [(24, (.lf (tSl 1 2 3))), (26, (.lf (.nsl 3 0 1 1)))] ⟨[(114, []), (114, [(tVi 1), (tVi 2), (tSl 4 8 9)]), (116, []), (114, [(tVi 1), (tVi 2), (tSl 4 8 9)])], ⟨3, 0, 0, 10, 5⟩⟩ (.some (.lf (tSl 5 10 11))) tRCopym0 (.again 3 ⟨[(.op .add .i64 (.var 0) (.lit 1))], [], [], [(.var 10), (.var 11)], [(.var 5)]⟩ tRCopym0))))))) (.done (.lf (tSl 1 2 3)) ⟨[(114, [])], ⟨1, 0, 0, 4, 2⟩⟩))) := by kernel_rfl
abbrev tRValidm0 : Mem := ⟨[(114, [(tVi 1), (tVi 2), (tSl 1 2 3)]), (116, [(tVi 4), (tVi 5), (tVi 6), (tVi 7)])], ⟨8, 0, 0, 4, 2⟩⟩
abbrev tRValidm1 : Mem := ⟨[(114, [(tVi 1), (tVi 2), (tSl 1 2 3)]), (116, [(tVi 4), (tVi 5), (tVi 6), (tVi 7)])], ⟨9, 0, 0, 4, 2⟩⟩
abbrev tRValidm2 : Mem := ⟨[(114, [(tVi 1), (tVi 2), (tSl 1 2 3)])], ⟨3, 0, 0, 4, 2⟩⟩
abbrev tRValidm3 : Mem := ⟨[(114, [(tVi 1), (tVi 2), (tSl 1 2 3)])], ⟨4, 0, 0, 4, 2⟩⟩
set_option maxRecDepth 100000 in
theorem tRValid : (runF ⟨tt, fns, {quiet := [7, 13], joins := [(9, ⟨[], []⟩), (15, ⟨[], []⟩)], loops := [(4, ⟨[(12, .int .i64)], []⟩), (10, ⟨[(61, .int .i64)], []⟩)]}⟩ (Try.f45.body.getD .skip) Try.f45.results.toList (entry Try.f45.ntmps [.lf (.sl 0 (.var 0) (.var 1))] [] ⟨0, 0, 0, 2, 1⟩)) =
  (.br (.cmp .gtr (.nat 0) (.lit 16)) (.done (.lf (.bool (.lit .false))) ⟨[], ⟨0, 0, 0, 2, 1⟩⟩) (.loop 4 ⟨[(.lit 0)], [], [], [], []⟩ ⟨[], ⟨0, 0, 0, 2, 1⟩⟩ ⟨[], ⟨1, 0, 0, 2, 1⟩⟩ (.br (.cmp .lss (.var 0) (.nat 0)) (.need (.inb 0 (.var 0) (.nat 0)) (.ld .false (.adr 0 (.var 0) 3 0) [(tVi 1), (tVi 2), (tSl 1 2 3)] ⟨[], ⟨1, 0, 0, 2, 1⟩⟩ ⟨[], ⟨3, 0, 0, 4, 2⟩⟩ (.join 9 tRValidm2 tRValidm2 (.br (.cmp .lss (.var 1) (.lit 1)) (.done (.lf (.bool (.lit .false))) tRValidm2) (.br (.cmp .gtr (.var 1) (.lit 1073741824)) (.done (.lf (.bool (.lit .false))) tRValidm2) (.br (.cmp .gtr (.var 0) (.lit 0)) (.need (.inb 0 (.op .sub .i64 (.var 0) (.lit 1)) (.nat 0)) (.ld .false (.adr 0 (.op .sub .i64 (.var 0) (.lit 1)) 3 0) [(tVi 3)] tRValidm2 tRValidm3 (.br (.cmp .leq (.var 1) (.var 3)) (.done (.lf (.bool (.lit .false))) tRValidm3) (.br (.cmp .lss (.var 2) (.lit 0)) (.done (.lf (.bool (.lit .false))) tRValidm3) (.br (.cmp .gtr (.var 2) (.lit 1099511627776)) (.done (.lf (.bool (.lit .false))) tRValidm3) (.br (.cmp .gtr (.nat 2) (.lit 8)) (.done (.lf (.bool (.lit .false))) tRValidm3) (.again 9 ⟨[], [], [], [], []⟩ tRValidm3))))))) (.br (.cmp .lss (.var 2) (.lit 0)) (.done (.lf (.bool (.lit .false))) tRValidm2) (.br (.cmp .gtr (.var 2) (.lit 1099511627776)) (.done (.lf (.bool (.lit .false))) tRValidm2) (.br (.cmp .gtr (.nat 2) (.lit 8)) (.done (.lf (.bool (.lit .false))) tRValidm2) (.again 9 ⟨[], [], [], [], []⟩ tRValidm2))))))) (.loop 10 ⟨[(.lit 0)], [], [], [], []⟩ tRValidm2 tRValidm3 (.br (.cmp .lss (.var 3) (.nat 2)) (.join 15 tRValidm3 tRValidm3 (.need (.inb 1 (.var 3) (.nat 2)) (.ld .false (.adr 1 (.var 3) 4 0) [(tVi 4), (tVi 5), (tVi 6), (tVi 7)] tRValidm3 ⟨[(114, [(tVi 1), (tVi 2), (tSl 1 2 3)])], ⟨8, 0, 0, 4, 2⟩⟩ (.br (.cmp .leq (.var 4) (.var 2)) (.done (.lf (.bool (.lit .false))) tRValidm0) (.br (.cmp .gtr (.var 4) (.lit 1099511627776)) (.done (.lf (.bool (.lit .false))) tRValidm0) (.br (.cmp .gtr (.var 3) (.lit 0)) (.need (.inb 1 (.op .sub .i64 (.var 3) (.lit 1)) (.nat 2)) (.ld .false (.adr 1 (.op .sub .i64 (.var 3) (.lit 1)) 4 0) [(tVi 8)] tRValidm0 tRValidm1 (.br (.cmp .leq (.var 4) (.var 8)) (.done (.lf (.bool (.lit .false))) tRValidm1) (.br (.cmp .lss (.var 5) (.lit 1)) (.done (.lf (.bool (.lit .false))) tRValidm1) (.br (.cmp .gtr (.var 5) (.lit 3)) (.done (.lf (.bool (.lit .false))) tRValidm1) (.again 15 ⟨[], [], [], [], []⟩ tRValidm1)))))) (.br (.cmp .lss (.var 5) (.lit 1)) (.done (.lf (.bool (.lit .false))) tRValidm0) (.br (.cmp .gtr (.var 5) (.lit 3)) (.done (.lf (.bool (.lit .false))) tRValidm0) (.again 15 ⟨[], [], [], [], []⟩ tRValidm0)))))))) (.again 10 ⟨[(.op .add .i64 (.var 3) (.lit 1))], [], [], [], []⟩ tRValidm3)) (.again 4 ⟨[(.op .add .i64 (.var 0) (.lit 1))], [], [], [], []⟩ tRValidm3)))))) (.done (.lf (.bool (.lit .true))) ⟨[], ⟨1, 0, 0, 2, 1⟩⟩)))) := by kernel_rfl
set_option maxRecDepth 100000 in
theorem tRSame : (runF ⟨tt, fns, {quiet := [6, 11], loops := [(4, ⟨[(14, .int .i64)], []⟩), (9, ⟨[(62, .int .i64)], []⟩)]}⟩ (Try.f40.body.getD .skip) Try.f40.results.toList (entry Try.f40.ntmps [.lf (.sl 0 (.var 0) (.var 1)), .lf (.sl 1 (.var 2) (.var 3))] [] ⟨0, 0, 0, 4, 2⟩)) =
  (.br (.cmp .neq (.nat 0) (.nat 2)) (.done (.lf (.bool (.lit .false))) ⟨[], ⟨0, 0, 0, 4, 2⟩⟩) (.loop 4 ⟨[(.lit 0)], [], [], [], []⟩ ⟨[], ⟨0, 0, 0, 4, 2⟩⟩ ⟨[], ⟨1, 0, 0, 4, 2⟩⟩ (.br (.cmp .lss (.var 0) (.nat 0)) (.need (.inb 0 (.var 0) (.nat 0)) (.ld .false (.adr 0 (.var 0) 3 0) [(tVi 1)] ⟨[], ⟨1, 0, 0, 4, 2⟩⟩ ⟨[], ⟨2, 0, 0, 4, 2⟩⟩ (.need (.inb 1 (.var 0) (.nat 2)) (.ld .false (.adr 1 (.var 0) 3 0) [(tVi 2)] ⟨[], ⟨2, 0, 0, 4, 2⟩⟩ ⟨[], ⟨3, 0, 0, 4, 2⟩⟩ (.br (.cmp .neq (.var 1) (.var 2)) (.done (.lf (.bool (.lit .false))) ⟨[], ⟨3, 0, 0, 4, 2⟩⟩) (.need (.inb 0 (.var 0) (.nat 0)) (.ld .false (.adr 0 (.var 0) 3 1) [(tVi 3)] ⟨[], ⟨3, 0, 0, 4, 2⟩⟩ ⟨[], ⟨4, 0, 0, 4, 2⟩⟩ (.need (.inb 1 (.var 0) (.nat 2)) (.ld .false (.adr 1 (.var 0) 3 1) [(tVi 4)] ⟨[], ⟨4, 0, 0, 4, 2⟩⟩ ⟨[], ⟨5, 0, 0, 4, 2⟩⟩ (.br (.cmp .neq (.var 3) (.var 4)) (.done (.lf (.bool (.lit .false))) ⟨[], ⟨5, 0, 0, 4, 2⟩⟩) (.need (.inb 0 (.var 0) (.nat 0)) (.ld .false (.adr 0 (.var 0) 3 2) [(tSl 2 4 5)] ⟨[], ⟨5, 0, 0, 4, 2⟩⟩ ⟨[], ⟨5, 0, 0, 6, 3⟩⟩ (.need (.inb 1 (.var 0) (.nat 2)) (.ld .false (.adr 1 (.var 0) 3 2) [(tSl 3 6 7)] ⟨[], ⟨5, 0, 0, 6, 3⟩⟩ ⟨[], ⟨5, 0, 0, 8, 4⟩⟩ (.br (.cmp .neq (.nat 4) (.nat 6)) (.done (.lf (.bool (.lit .false))) ⟨[], ⟨5, 0, 0, 8, 4⟩⟩) (.need (.inb 0 (.var 0) (.nat 0)) (.ld .false (.adr 0 (.var 0) 3 2) [(tSl 4 8 9)] ⟨[], ⟨5, 0, 0, 8, 4⟩⟩ ⟨[], ⟨5, 0, 0, 10, 5⟩⟩ (.loop 9 ⟨[(.lit 0)], [], [], [], []⟩ ⟨[], ⟨5, 0, 0, 10, 5⟩⟩ ⟨[], ⟨6, 0, 0, 10, 5⟩⟩ (.br (.cmp .lss (.var 5) (.nat 8)) (.need (.inb 0 (.var 0) (.nat 0)) (.ld .false (.adr 0 (.var 0) 3 2) [(tSl 5 10 11)] ⟨[], ⟨6, 0, 0, 10, 5⟩⟩ ⟨[], ⟨6, 0, 0, 12, 6⟩⟩ (.need (.inb 5 (.var 5) (.nat 10)) (.ld .false (.adr 5 (.var 5) 4 0) [(tVi 6), (tVi 7), (tVi 8), (tVi 9)] ⟨[], ⟨6, 0, 0, 12, 6⟩⟩ ⟨[], ⟨10, 0, 0, 12, 6⟩⟩ (.need (.inb 1 (.var 0) (.nat 2)) (.ld .false (.adr 1 (.var 0) 3 2) [(tSl 6 12 13)] ⟨[], ⟨10, 0, 0, 12, 6⟩⟩ ⟨[], ⟨10, 0, 0, 14, 7⟩⟩ (.need (.inb 6 (.var 5) (.nat 12)) (.ld .false (.adr 6 (.var 5) 4 0) [(tVi 10), (tVi 11), (tVi 12), (tVi 13)] ⟨[], ⟨10, 0, 0, 14, 7⟩⟩ ⟨[], ⟨14, 0, 0, 14, 7⟩⟩ (.br (.not (.and (.cmp .eql (.var 6) (.var 10)) (.and (.cmp .eql (.var 7) (.var 11)) (.and (.cmp .eql (.var 8) (.var 12)) (.cmp .eql (.var 9) (.var 13)))))) (.done (.lf (.bool (.lit .false))) ⟨[], ⟨14, 0, 0, 14, 7⟩⟩) (.again 9 ⟨[(.op .add .i64 (.var 5) (.lit 1))], [], [], [], []⟩ ⟨[], ⟨14, 0, 0, 14, 7⟩⟩)))))))))) (.again 4 ⟨[(.op .add .i64 (.var 0) (.lit 1))], [], [], [], []⟩ ⟨[], ⟨6, 0, 0, 10, 5⟩⟩)))))))))))))))))))) (.done (.lf (.bool (.lit .true))) ⟨[], ⟨1, 0, 0, 4, 2⟩⟩)))) := by kernel_rfl
end Go.Proofs.Ytfjiolgdcphjhaa

namespace Go.Eng
set_option linter.unusedVariables false
set_option linter.unusedSimpArgs false
def blen (u : Nat) : Nat := if u = 0 then 0 else u.log2 + 1
def nlen (u : Nat) : Nat := (blen u + 7) / 8
def digs : Nat → Nat → List Int
  | 0, _ => []
  | n + 1, u => digs n (u / 256) ++ [((u % 256 : Nat) : Int)]
def numB (u : Nat) : List Int := (nlen u : Int) :: digs (nlen u) u
def Byt (bs : List Int) : Prop := ∀ b ∈ bs, 0 ≤ b ∧ b < 256
def valB (ds : List Int) : Nat := ds.foldl (fun a d => 256 * a + d.toNat) 0
theorem digs_len : ∀ (n u : Nat), (digs n u).length = n
  | 0, _ => rfl
  | n + 1, u => by simp [digs, digs_len n]
theorem digs_byt : ∀ (n u : Nat), Byt (digs n u)
  | 0, _ => fun b hb => by cases hb
  | n + 1, u => fun b hb => by
    simp only [digs, List.mem_append, List.mem_singleton] at hb
    rcases hb with hb | rfl
    · exact digs_byt n _ b hb
    · omega
theorem digs_front : ∀ (n u : Nat), digs (n + 1) u = ((u / 256 ^ n % 256 : Nat) : Int) :: digs n u
  | 0, u => by simp [digs]
  | n + 1, u => by
    rw [digs, digs_front n (u / 256), digs, List.cons_append, Nat.div_div_eq_div_mul, show 256 * 256 ^ n = 256 ^ (n + 1) by rw [Nat.pow_succ, Nat.mul_comm]]
theorem digs_get : ∀ (n u j : Nat), j < n → (digs n u)[j]? = some ((u / 256 ^ (n - 1 - j) % 256 : Nat) : Int)
  | 0, _, _, h => by omega
  | n + 1, u, 0, _ => by rw [digs_front]; rfl
  | n + 1, u, j + 1, h => by
    rw [digs_front, List.getElem?_cons_succ, digs_get n u j (by omega)]
    rw [show n - 1 - j = n + 1 - 1 - (j + 1) by omega]
theorem valB_snoc (ds : List Int) (d : Int) : valB (ds ++ [d]) = 256 * valB ds + d.toNat := by simp [valB]
theorem valB_digs : ∀ (n u : Nat), valB (digs n u) = u % 256 ^ n
  | 0, u => by simp [digs, valB, Nat.mod_one]
  | n + 1, u => by
    rw [digs, valB_snoc, valB_digs n, Int.toNat_natCast]
    have h1 : u % 256 ^ (n + 1) = 256 * (u / 256 % 256 ^ n) + u % 256 := by
      rw [Nat.pow_succ, Nat.mul_comm (256 ^ n) 256, Nat.mod_mul]; omega
    omega
theorem blen_lt {u k : Nat} (h : u < 2 ^ k) : blen u ≤ k := by
  unfold blen
  split
  · omega
  · rename_i h0
    have := (Nat.log2_lt h0).2 h
    omega
theorem lt_blen (u : Nat) : u < 2 ^ blen u := by
  unfold blen
  split
  · rename_i h; rw [h]; decide
  · exact Nat.lt_log2_self
theorem blen_ge {u k : Nat} (h : 2 ^ k ≤ u) : k < blen u := by
  rcases Nat.lt_or_ge k (blen u) with q | q
  · exact q
  · have h1 := lt_blen u
    have h2 : 2 ^ blen u ≤ 2 ^ k := Nat.pow_le_pow_right (by decide) q
    omega
theorem nlen_le {u k : Nat} (h : u < 256 ^ k) : nlen u ≤ k := by
  have h1 : (256 : Nat) ^ k = 2 ^ (8 * k) := by rw [Nat.pow_mul]
  have := blen_lt (h1 ▸ h)
  unfold nlen; omega
theorem nlen_gt {u k : Nat} (h : 256 ^ k ≤ u) : k < nlen u := by
  have h1 : (256 : Nat) ^ k = 2 ^ (8 * k) := by rw [Nat.pow_mul]
  have := blen_ge (h1 ▸ h)
  unfold nlen; omega
theorem lt_nlen (u : Nat) : u < 256 ^ nlen u := by
  rcases Nat.lt_or_ge u (256 ^ nlen u) with q | q
  · exact q
  · have := nlen_gt q; omega
theorem nlen_8 {u : Nat} (h : u < 2 ^ 64) : nlen u ≤ 8 := nlen_le (k := 8) (by simpa using h)
theorem val_numB (u : Nat) : valB (digs (nlen u) u) = u := by rw [valB_digs, Nat.mod_eq_of_lt (lt_nlen u)]
theorem valB_lt : ∀ {ds : List Int}, Byt ds → valB ds < 256 ^ ds.length := by
  intro ds
  have key : ∀ (ds : List Int) (a k : Nat), a < 256 ^ k → Byt ds → ds.foldl (fun a d => 256 * a + d.toNat) a < 256 ^ (k + ds.length) := by
    intro ds
    induction ds with
    | nil => intro a k h _; simpa using h
    | cons d r ih =>
      intro a k h hb
      have h1 := hb d (by simp)
      have := ih (256 * a + d.toNat) (k + 1) (by rw [Nat.pow_succ]; omega) (fun b q => hb b (by simp [q]))
      rw [List.foldl_cons, List.length_cons, show k + (r.length + 1) = k + 1 + r.length by omega]
      exact this
  intro h
  have := key ds 0 0 (by decide) h
  simpa [valB] using this
theorem digs_valB {ds : List Int} (h : Byt ds) : digs ds.length (valB ds) = ds := by
  induction hn : ds.length generalizing ds with
  | zero =>
    have : ds = [] := List.length_eq_zero_iff.1 hn
    subst this; rfl
  | succ n ih =>
    have hne : ds ≠ [] := by intro e; subst e; simp at hn
    obtain ⟨l, d, rfl⟩ : ∃ l d, ds = l ++ [d] := ⟨ds.dropLast, ds.getLast hne, (List.dropLast_concat_getLast hne).symm⟩
    have hl : l.length = n := by simpa using hn
    have hd := h d (by simp)
    have hb : Byt l := fun b q => h b (by simp [q])
    rw [digs, valB_snoc]
    have e1 : (256 * valB l + d.toNat) / 256 = valB l := by omega
    have e2 : (256 * valB l + d.toNat) % 256 = d.toNat := by omega
    rw [e1, e2, ih hb hl]
    congr 1
    simp only [List.cons.injEq, and_true]
    omega
theorem nlen_valB {ds : List Int} (h : Byt ds) : nlen (valB ds) = ds.length ↔ ¬ (ds ≠ [] ∧ ds.headD 0 = 0) := by
  cases ds with
  | nil => simp [valB, nlen, blen]
  | cons d r =>
    have hd := h d (by simp)
    have hb : Byt r := fun b q => h b (by simp [q])
    have hv : valB (d :: r) = d.toNat * 256 ^ r.length + valB r := by
      have h1 := digs_valB h
      rw [List.length_cons, digs_front] at h1
      obtain ⟨h2, h3⟩ := List.cons.inj h1
      have h4 : valB (digs r.length (valB (d :: r))) = valB r := by rw [h3]
      rw [valB_digs] at h4
      have h5 : valB (d :: r) / 256 ^ r.length < 256 := by
        rw [Nat.div_lt_iff_lt_mul (Nat.pow_pos (by decide))]
        have := valB_lt h
        rwa [List.length_cons, Nat.pow_succ, Nat.mul_comm] at this
      have h6 := Nat.div_add_mod (valB (d :: r)) (256 ^ r.length)
      have h7 : valB (d :: r) / 256 ^ r.length = d.toNat := by
        rw [Nat.mod_eq_of_lt h5] at h2
        exact (Int.toNat_natCast _).symm.trans (congrArg Int.toNat h2)
      rw [h7, h4, Nat.mul_comm] at h6
      exact h6.symm
    have hr := valB_lt hb
    simp only [ne_eq, reduceCtorEq, not_false_eq_true, List.headD_cons, true_and, List.length_cons]
    constructor
    · intro e h0
      have : valB (d :: r) < 256 ^ r.length := by rw [hv, h0]; simpa using hr
      have := nlen_le this
      omega
    · intro h0
      have h1 : 256 ^ r.length ≤ valB (d :: r) := by
        rw [hv]
        have : 1 * 256 ^ r.length ≤ d.toNat * 256 ^ r.length := Nat.mul_le_mul_right _ (by omega)
        omega
      have := nlen_gt h1
      have h2 := nlen_le (valB_lt h)
      rw [List.length_cons] at h2
      omega
def readN (l : List Int) (bad : Int) : List Int × Int × Nat :=
  if bad ≠ 0 then (l, bad, 0) else
  match l with
  | [] => (l, 10, 0)
  | n :: r => if 8 < n then (l, 11, 0) else if r.length < n.toNat then (l, 10, 0) else if nlen (valB (r.take n.toNat)) ≠ n.toNat then (l, 11, 0) else (r.drop n.toNat, 0, valB (r.take n.toNat))
theorem readN_num {u : Nat} (hu : u < 2 ^ 64) (rest : List Int) : readN (numB u ++ rest) 0 = (rest, 0, u) := by
  have h8 := nlen_8 hu
  have hl := digs_len (nlen u) u
  unfold readN numB
  rw [if_neg (by simp), List.cons_append]
  dsimp only
  rw [Int.toNat_natCast, if_neg (by omega), if_neg (by rw [List.length_append, hl]; omega)]
  rw [List.take_append_of_le_length (by omega), List.take_of_length_le (by omega), val_numB, if_neg (by simp), List.drop_append_of_le_length (by omega), List.drop_of_length_le (by omega)]
  rfl
theorem readN_ok {l : List Int} {bad : Int} (hb : Byt l) (h : (readN l bad).2.1 = 0) : bad = 0 ∧ l = numB (readN l bad).2.2 ++ (readN l bad).1 ∧ (readN l bad).2.2 < 2 ^ 64 := by
  unfold readN at *
  by_cases h0 : bad = 0
  · rw [if_neg (by simpa using h0)] at *
    cases l with
    | nil => simp at h
    | cons n r =>
      have hn := hb n (by simp)
      have hr : Byt r := fun b q => hb b (by simp [q])
      simp only at *
      by_cases h1 : 8 < n
      · rw [if_pos h1] at h; simp at h
      · rw [if_neg h1] at *
        by_cases h2 : r.length < n.toNat
        · rw [if_pos h2] at h; simp at h
        · rw [if_neg h2] at *
          by_cases h3 : nlen (valB (r.take n.toNat)) ≠ n.toNat
          · rw [if_pos h3] at h; simp at h
          · rw [if_neg h3] at *
            have h3 : nlen (valB (r.take n.toNat)) = n.toNat := Decidable.not_not.1 h3
            have hbt : Byt (r.take n.toNat) := fun b q => hr b (List.mem_of_mem_take q)
            have hlt : (r.take n.toNat).length = n.toNat := by rw [List.length_take]; omega
            refine ⟨h0, ?_, ?_⟩
            · unfold numB
              rw [h3]
              have := digs_valB hbt
              rw [hlt] at this
              rw [this, List.cons_append, List.take_append_drop]
              congr 1; omega
            · have := valB_lt hbt
              rw [hlt] at this
              exact Nat.lt_of_lt_of_le this (by
                have : (256 : Nat) ^ n.toNat ≤ 256 ^ 8 := Nat.pow_le_pow_right (by decide) (by omega)
                simpa using this)
  · rw [if_pos h0] at h; exact absurd h h0
def foldN (i : Int) : Nat := if 0 ≤ i then (2 * i).toNat else (-2 * i - 1).toNat
def unfoldN (u : Nat) : Int := if u % 2 = 0 then ((u / 2 : Nat) : Int) else -((u / 2 : Nat) : Int) - 1
theorem unfold_fold (i : Int) : unfoldN (foldN i) = i := by
  unfold unfoldN foldN
  split
  · split <;> omega
  · split <;> omega
theorem fold_unfold (u : Nat) : foldN (unfoldN u) = u := by
  unfold unfoldN foldN
  split
  · split <;> omega
  · split <;> omega
theorem foldN_lt {i : Int} (h : -9223372036854775808 ≤ i ∧ i ≤ 9223372036854775807) : foldN i < 2 ^ 64 := by
  unfold foldN; split <;> omega
end Go.Eng

namespace Go.Proofs.Ytfjiolgdcphjhaa
open Go.Eng
set_option maxRecDepth 100000 in
theorem tLen64 : (runF ⟨tt, fns, {}⟩ (Try.f112.body.getD .skip) Try.f112.results.toList (entry Try.f112.ntmps [.lf (.int .u64 (.var 0))] [] ⟨1, 0, 0, 0, 0⟩)) =
  (.br (.cmp .geq (.var 0) (.lit 4294967296)) (.br (.cmp .geq (.op .shr .u64 (.var 0) (.lit 32)) (.lit 65536)) (.br (.cmp .geq (.op .shr .u64 (.op .shr .u64 (.var 0) (.lit 32)) (.lit 16)) (.lit 256)) (.gen (.index 9 (.const (.string ⟨#[0, 1, 2, 2, 3, 3, 3, 3, 4, 4, 4, 4, 4, 4, 4, 4, 5, 5, 5, 5, 5, 5, 5, 5, 5, 5, 5, 5, 5, 5, 5, 5, 6, 6, 6, 6, 6, 6, 6, 6, 6, 6, 6, 6, 6, 6, 6, 6, 6, 6, 6, 6, 6, 6, 6, 6, 6, 6, 6, 6, 6, 6, 6, 6, 7, 7, 7, 7, 7, 7, 7, 7, 7, 7, 7, 7, 7, 7, 7, 7, 7, 7, 7, 7, 7, 7, 7, 7, 7, 7, 7, 7, 7, 7, 7, 7, 7, 7, 7, 7, 7, 7, 7, 7, 7, 7, 7, 7, 7, 7, 7, 7, 7, 7, 7, 7, 7, 7, 7, 7, 7, 7, 7, 7, 7, 7, 7, 7, 8, 8, 8, 8, 8, 8, 8, 8, 8, 8, 8, 8, 8, 8, 8, 8, 8, 8, 8, 8, 8, 8, 8, 8, 8, 8, 8, 8, 8, 8, 8, 8, 8, 8, 8, 8, 8, 8, 8, 8, 8, 8, 8, 8, 8, 8, 8, 8, 8, 8, 8, 8, 8, 8, 8, 8, 8, 8, 8, 8, 8, 8, 8, 8, 8, 8, 8, 8, 8, 8, 8, 8, 8, 8, 8, 8, 8, 8, 8, 8, 8, 8, 8, 8, 8, 8, 8, 8, 8, 8, 8, 8, 8, 8, 8, 8, 8, 8, 8, 8, 8, 8, 8, 8, 8, 8, 8, 8, 8, 8, 8, 8, 8, 8, 8, 8, 8, 8, 8, 8, 8, 8, 8, 8, 8, 8, 8, 8]⟩)) (.tmp 21)) 5 [(21, (.lf (.int .u8 (.conv .u8 (.op .shr .u64 (.op .shr .u64 (.op .shr .u64 (.var 0) (.lit 32)) (.lit 16)) (.lit 8))))))] ⟨[], ⟨1, 0, 0, 0, 0⟩⟩ (.some (.lf (.int .u8 (.var 1)))) ⟨[], ⟨2, 0, 0, 0, 0⟩⟩ (.done (.lf (.int .i64 (.op .add .i64 (.lit 56) (.conv .i64 (.var 1))))) ⟨[], ⟨2, 0, 0, 0, 0⟩⟩)) (.gen (.index 9 (.const (.string ⟨#[0, 1, 2, 2, 3, 3, 3, 3, 4, 4, 4, 4, 4, 4, 4, 4, 5, 5, 5, 5, 5, 5, 5, 5, 5, 5, 5, 5, 5, 5, 5, 5, 6, 6, 6, 6, 6, 6, 6, 6, 6, 6, 6, 6, 6, 6, 6, 6, 6, 6, 6, 6, 6, 6, 6, 6, 6, 6, 6, 6, 6, 6, 6, 6, 7, 7, 7, 7, 7, 7, 7, 7, 7, 7, 7, 7, 7, 7, 7, 7, 7, 7, 7, 7, 7, 7, 7, 7, 7, 7, 7, 7, 7, 7, 7, 7, 7, 7, 7, 7, 7, 7, 7, 7, 7, 7, 7, 7, 7, 7, 7, 7, 7, 7, 7, 7, 7, 7, 7, 7, 7, 7, 7, 7, 7, 7, 7, 7, 8, 8, 8, 8, 8, 8, 8, 8, 8, 8, 8, 8, 8, 8, 8, 8, 8, 8, 8, 8, 8, 8, 8, 8, 8, 8, 8, 8, 8, 8, 8, 8, 8, 8, 8, 8, 8, 8, 8, 8, 8, 8, 8, 8, 8, 8, 8, 8, 8, 8, 8, 8, 8, 8, 8, 8, 8, 8, 8, 8, 8, 8, 8, 8, 8, 8, 8, 8, 8, 8, 8, 8, 8, 8, 8, 8, 8, 8, 8, 8, 8, 8, 8, 8, 8, 8, 8, 8, 8, 8, 8, 8, 8, 8, 8, 8, 8, 8, 8, 8, 8, 8, 8, 8, 8, 8, 8, 8, 8, 8, 8, 8, 8, 8, 8, 8, 8, 8, 8, 8, 8, 8, 8, 8, 8, 8, 8, 8]⟩)) (.tmp 21)) 5 [(21, (.lf (.int .u8 (.conv .u8 (.op .shr .u64 (.op .shr .u64 (.var 0) (.lit 32)) (.lit 16))))))] ⟨[], ⟨1, 0, 0, 0, 0⟩⟩ (.some (.lf (.int .u8 (.var 1)))) ⟨[], ⟨2, 0, 0, 0, 0⟩⟩ (.done (.lf (.int .i64 (.op .add .i64 (.lit 48) (.conv .i64 (.var 1))))) ⟨[], ⟨2, 0, 0, 0, 0⟩⟩))) (.br (.cmp .geq (.op .shr .u64 (.var 0) (.lit 32)) (.lit 256)) (.gen (.index 9 (.const (.string ⟨#[0, 1, 2, 2, 3, 3, 3, 3, 4, 4, 4, 4, 4, 4, 4, 4, 5, 5, 5, 5, 5, 5, 5, 5, 5, 5, 5, 5, 5, 5, 5, 5, 6, 6, 6, 6, 6, 6, 6, 6, 6, 6, 6, 6, 6, 6, 6, 6, 6, 6, 6, 6, 6, 6, 6, 6, 6, 6, 6, 6, 6, 6, 6, 6, 7, 7, 7, 7, 7, 7, 7, 7, 7, 7, 7, 7, 7, 7, 7, 7, 7, 7, 7, 7, 7, 7, 7, 7, 7, 7, 7, 7, 7, 7, 7, 7, 7, 7, 7, 7, 7, 7, 7, 7, 7, 7, 7, 7, 7, 7, 7, 7, 7, 7, 7, 7, 7, 7, 7, 7, 7, 7, 7, 7, 7, 7, 7, 7, 8, 8, 8, 8, 8, 8, 8, 8, 8, 8, 8, 8, 8, 8, 8, 8, 8, 8, 8, 8, 8, 8, 8, 8, 8, 8, 8, 8, 8, 8, 8, 8, 8, 8, 8, 8, 8, 8, 8, 8, 8, 8, 8, 8, 8, 8, 8, 8, 8, 8, 8, 8, 8, 8, 8, 8, 8, 8, 8, 8, 8, 8, 8, 8, 8, 8, 8, 8, 8, 8, 8, 8, 8, 8, 8, 8, 8, 8, 8, 8, 8, 8, 8, 8, 8, 8, 8, 8, 8, 8, 8, 8, 8, 8, 8, 8, 8, 8, 8, 8, 8, 8, 8, 8, 8, 8, 8, 8, 8, 8, 8, 8, 8, 8, 8, 8, 8, 8, 8, 8, 8, 8, 8, 8, 8, 8, 8, 8]⟩)) (.tmp 21)) 5 [(21, (.lf (.int .u8 (.conv .u8 (.op .shr .u64 (.op .shr .u64 (.var 0) (.lit 32)) (.lit 8))))))] ⟨[], ⟨1, 0, 0, 0, 0⟩⟩ (.some (.lf (.int .u8 (.var 1)))) ⟨[], ⟨2, 0, 0, 0, 0⟩⟩ (.done (.lf (.int .i64 (.op .add .i64 (.lit 40) (.conv .i64 (.var 1))))) ⟨[], ⟨2, 0, 0, 0, 0⟩⟩)) (.gen (.index 9 (.const (.string ⟨#[0, 1, 2, 2, 3, 3, 3, 3, 4, 4, 4, 4, 4, 4, 4, 4, 5, 5, 5, 5, 5, 5, 5, 5, 5, 5, 5, 5, 5, 5, 5, 5, 6, 6, 6, 6, 6, 6, 6, 6, 6, 6, 6, 6, 6, 6, 6, 6, 6, 6, 6, 6, 6, 6, 6, 6, 6, 6, 6, 6, 6, 6, 6, 6, 7, 7, 7, 7, 7, 7, 7, 7, 7, 7, 7, 7, 7, 7, 7, 7, 7, 7, 7, 7, 7, 7, 7, 7, 7, 7, 7, 7, 7, 7, 7, 7, 7, 7, 7, 7, 7, 7, 7, 7, 7, 7, 7, 7, 7, 7, 7, 7, 7, 7, 7, 7, 7, 7, 7, 7, 7, 7, 7, 7, 7, 7, 7, 7, 8, 8, 8, 8, 8, 8, 8, 8, 8, 8, 8, 8, 8, 8, 8, 8, 8, 8, 8, 8, 8, 8, 8, 8, 8, 8, 8, 8, 8, 8, 8, 8, 8, 8, 8, 8, 8, 8, 8, 8, 8, 8, 8, 8, 8, 8, 8, 8, 8, 8, 8, 8, 8, 8, 8, 8, 8, 8, 8, 8, 8, 8, 8, 8, 8, 8, 8, 8, 8, 8, 8, 8, 8, 8, 8, 8, 8, 8, 8, 8, 8, 8, 8, 8, 8, 8, 8, 8, 8, 8, 8, 8, 8, 8, 8, 8, 8, 8, 8, 8, 8, 8, 8, 8, 8, 8, 8, 8, 8, 8, 8, 8, 8, 8, 8, 8, 8, 8, 8, 8, 8, 8, 8, 8, 8, 8, 8, 8]⟩)) (.tmp 21)) 5 [(21, (.lf (.int .u8 (.conv .u8 (.op .shr .u64 (.var 0) (.lit 32))))))] ⟨[], ⟨1, 0, 0, 0, 0⟩⟩ (.some (.lf (.int .u8 (.var 1)))) ⟨[], ⟨2, 0, 0, 0, 0⟩⟩ (.done (.lf (.int .i64 (.op .add .i64 (.lit 32) (.conv .i64 (.var 1))))) ⟨[], ⟨2, 0, 0, 0, 0⟩⟩)))) (.br (.cmp .geq (.var 0) (.lit 65536)) (.br (.cmp .geq (.op .shr .u64 (.var 0) (.lit 16)) (.lit 256)) (.gen (.index 9 (.const (.string ⟨#[0, 1, 2, 2, 3, 3, 3, 3, 4, 4, 4, 4, 4, 4, 4, 4, 5, 5, 5, 5, 5, 5, 5, 5, 5, 5, 5, 5, 5, 5, 5, 5, 6, 6, 6, 6, 6, 6, 6, 6, 6, 6, 6, 6, 6, 6, 6, 6, 6, 6, 6, 6, 6, 6, 6, 6, 6, 6, 6, 6, 6, 6, 6, 6, 7, 7, 7, 7, 7, 7, 7, 7, 7, 7, 7, 7, 7, 7, 7, 7, 7, 7, 7, 7, 7, 7, 7, 7, 7, 7, 7, 7, 7, 7, 7, 7, 7, 7, 7, 7, 7, 7, 7, 7, 7, 7, 7, 7, 7, 7, 7, 7, 7, 7, 7, 7, 7, 7, 7, 7, 7, 7, 7, 7, 7, 7, 7, 7, 8, 8, 8, 8, 8, 8, 8, 8, 8, 8, 8, 8, 8, 8, 8, 8, 8, 8, 8, 8, 8, 8, 8, 8, 8, 8, 8, 8, 8, 8, 8, 8, 8, 8, 8, 8, 8, 8, 8, 8, 8, 8, 8, 8, 8, 8, 8, 8, 8, 8, 8, 8, 8, 8, 8, 8, 8, 8, 8, 8, 8, 8, 8, 8, 8, 8, 8, 8, 8, 8, 8, 8, 8, 8, 8, 8, 8, 8, 8, 8, 8, 8, 8, 8, 8, 8, 8, 8, 8, 8, 8, 8, 8, 8, 8, 8, 8, 8, 8, 8, 8, 8, 8, 8, 8, 8, 8, 8, 8, 8, 8, 8, 8, 8, 8, 8, 8, 8, 8, 8, 8, 8, 8, 8, 8, 8, 8, 8]⟩)) (.tmp 21)) 5 [(21, (.lf (.int .u8 (.conv .u8 (.op .shr .u64 (.op .shr .u64 (.var 0) (.lit 16)) (.lit 8))))))] ⟨[], ⟨1, 0, 0, 0, 0⟩⟩ (.some (.lf (.int .u8 (.var 1)))) ⟨[], ⟨2, 0, 0, 0, 0⟩⟩ (.done (.lf (.int .i64 (.op .add .i64 (.lit 24) (.conv .i64 (.var 1))))) ⟨[], ⟨2, 0, 0, 0, 0⟩⟩)) (.gen (.index 9 (.const (.string ⟨#[0, 1, 2, 2, 3, 3, 3, 3, 4, 4, 4, 4, 4, 4, 4, 4, 5, 5, 5, 5, 5, 5, 5, 5, 5, 5, 5, 5, 5, 5, 5, 5, 6, 6, 6, 6, 6, 6, 6, 6, 6, 6, 6, 6, 6, 6, 6, 6, 6, 6, 6, 6, 6, 6, 6, 6, 6, 6, 6, 6, 6, 6, 6, 6, 7, 7, 7, 7, 7, 7, 7, 7, 7, 7, 7, 7, 7, 7, 7, 7, 7, 7, 7, 7, 7, 7, 7, 7, 7, 7, 7, 7, 7, 7, 7, 7, 7, 7, 7, 7, 7, 7, 7, 7, 7, 7, 7, 7, 7, 7, 7, 7, 7, 7, 7, 7, 7, 7, 7, 7, 7, 7, 7, 7, 7, 7, 7, 7, 8, 8, 8, 8, 8, 8, 8, 8, 8, 8, 8, 8, 8, 8, 8, 8, 8, 8, 8, 8, 8, 8, 8, 8, 8, 8, 8, 8, 8, 8, 8, 8, 8, 8, 8, 8, 8, 8, 8, 8, 8, 8, 8, 8, 8, 8, 8, 8, 8, 8, 8, 8, 8, 8, 8, 8, 8, 8, 8, 8, 8, 8, 8, 8, 8, 8, 8, 8, 8, 8, 8, 8, 8, 8, 8, 8, 8, 8, 8, 8, 8, 8, 8, 8, 8, 8, 8, 8, 8, 8, 8, 8, 8, 8, 8, 8, 8, 8, 8, 8, 8, 8, 8, 8, 8, 8, 8, 8, 8, 8, 8, 8, 8, 8, 8, 8, 8, 8, 8, 8, 8, 8, 8, 8, 8, 8, 8, 8]⟩)) (.tmp 21)) 5 [(21, (.lf (.int .u8 (.conv .u8 (.op .shr .u64 (.var 0) (.lit 16))))))] ⟨[], ⟨1, 0, 0, 0, 0⟩⟩ (.some (.lf (.int .u8 (.var 1)))) ⟨[], ⟨2, 0, 0, 0, 0⟩⟩ (.done (.lf (.int .i64 (.op .add .i64 (.lit 16) (.conv .i64 (.var 1))))) ⟨[], ⟨2, 0, 0, 0, 0⟩⟩))) (.br (.cmp .geq (.var 0) (.lit 256)) (.gen (.index 9 (.const (.string ⟨#[0, 1, 2, 2, 3, 3, 3, 3, 4, 4, 4, 4, 4, 4, 4, 4, 5, 5, 5, 5, 5, 5, 5, 5, 5, 5, 5, 5, 5, 5, 5, 5, 6, 6, 6, 6, 6, 6, 6, 6, 6, 6, 6, 6, 6, 6, 6, 6, 6, 6, 6, 6, 6, 6, 6, 6, 6, 6, 6, 6, 6, 6, 6, 6, 7, 7, 7, 7, 7, 7, 7, 7, 7, 7, 7, 7, 7, 7, 7, 7, 7, 7, 7, 7, 7, 7, 7, 7, 7, 7, 7, 7, 7, 7, 7, 7, 7, 7, 7, 7, 7, 7, 7, 7, 7, 7, 7, 7, 7, 7, 7, 7, 7, 7, 7, 7, 7, 7, 7, 7, 7, 7, 7, 7, 7, 7, 7, 7, 8, 8, 8, 8, 8, 8, 8, 8, 8, 8, 8, 8, 8, 8, 8, 8, 8, 8, 8, 8, 8, 8, 8, 8, 8, 8, 8, 8, 8, 8, 8, 8, 8, 8, 8, 8, 8, 8, 8, 8, 8, 8, 8, 8, 8, 8, 8, 8, 8, 8, 8, 8, 8, 8, 8, 8, 8, 8, 8, 8, 8, 8, 8, 8, 8, 8, 8, 8, 8, 8, 8, 8, 8, 8, 8, 8, 8, 8, 8, 8, 8, 8, 8, 8, 8, 8, 8, 8, 8, 8, 8, 8, 8, 8, 8, 8, 8, 8, 8, 8, 8, 8, 8, 8, 8, 8, 8, 8, 8, 8, 8, 8, 8, 8, 8, 8, 8, 8, 8, 8, 8, 8, 8, 8, 8, 8, 8, 8]⟩)) (.tmp 21)) 5 [(21, (.lf (.int .u8 (.conv .u8 (.op .shr .u64 (.var 0) (.lit 8))))))] ⟨[], ⟨1, 0, 0, 0, 0⟩⟩ (.some (.lf (.int .u8 (.var 1)))) ⟨[], ⟨2, 0, 0, 0, 0⟩⟩ (.done (.lf (.int .i64 (.op .add .i64 (.lit 8) (.conv .i64 (.var 1))))) ⟨[], ⟨2, 0, 0, 0, 0⟩⟩)) (.gen (.index 9 (.const (.string ⟨#[0, 1, 2, 2, 3, 3, 3, 3, 4, 4, 4, 4, 4, 4, 4, 4, 5, 5, 5, 5, 5, 5, 5, 5, 5, 5, 5, 5, 5, 5, 5, 5, 6, 6, 6, 6, 6, 6, 6, 6, 6, 6, 6, 6, 6, 6, 6, 6, 6, 6, 6, 6, 6, 6, 6, 6, 6, 6, 6, 6, 6, 6, 6, 6, 7, 7, 7, 7, 7, 7, 7, 7, 7, 7, 7, 7, 7, 7, 7, 7, 7, 7, 7, 7, 7, 7, 7, 7, 7, 7, 7, 7, 7, 7, 7, 7, 7, 7, 7, 7, 7, 7, 7, 7, 7, 7, 7, 7, 7, 7, 7, 7, 7, 7, 7, 7, 7, 7, 7, 7, 7, 7, 7, 7, 7, 7, 7, 7, 8, 8, 8, 8, 8, 8, 8, 8, 8, 8, 8, 8, 8, 8, 8, 8, 8, 8, 8, 8, 8, 8, 8, 8, 8, 8, 8, 8, 8, 8, 8, 8, 8, 8, 8, 8, 8, 8, 8, 8, 8, 8, 8, 8, 8, 8, 8, 8, 8, 8, 8, 8, 8, 8, 8, 8, 8, 8, 8, 8, 8, 8, 8, 8, 8, 8, 8, 8, 8, 8, 8, 8, 8, 8, 8, 8, 8, 8, 8, 8, 8, 8, 8, 8, 8, 8, 8, 8, 8, 8, 8, 8, 8, 8, 8, 8, 8, 8, 8, 8, 8, 8, 8, 8, 8, 8, 8, 8, 8, 8, 8, 8, 8, 8, 8, 8, 8, 8, 8, 8, 8, 8, 8, 8, 8, 8, 8, 8]⟩)) (.tmp 21)) 5 [(21, (.lf (.int .u8 (.conv .u8 (.var 0)))))] ⟨[], ⟨1, 0, 0, 0, 0⟩⟩ (.some (.lf (.int .u8 (.var 1)))) ⟨[], ⟨2, 0, 0, 0, 0⟩⟩ (.done (.lf (.int .i64 (.op .add .i64 (.lit 0) (.conv .i64 (.var 1))))) ⟨[], ⟨2, 0, 0, 0, 0⟩⟩))))) := by kernel_rfl
set_option maxRecDepth 100000 in
theorem tSize : (runF ⟨tt, fns, {}⟩ (Try.f103.body.getD .skip) Try.f103.results.toList (entry Try.f103.ntmps [.lf (.int .u64 (.var 0))] [] ⟨1, 0, 0, 0, 0⟩)) =
  (.call 112 [(.lf (.int .u64 (.var 0)))] ⟨[], ⟨1, 0, 0, 0, 0⟩⟩ (.lf (tVi 1)) ⟨[], ⟨2, 0, 0, 0, 0⟩⟩ (.done (.lf (.int .i64 (.op .add .i64 (.lit 1) (.op .quo .i64 (.op .add .i64 (.var 1) (.lit 7)) (.lit 8))))) ⟨[], ⟨2, 0, 0, 0, 0⟩⟩)) := by kernel_rfl
set_option maxRecDepth 100000 in
theorem tFold : (runF ⟨tt, fns, {}⟩ (Try.f88.body.getD .skip) Try.f88.results.toList (entry Try.f88.ntmps [.lf (.int .i64 (.var 0))] [] ⟨1, 0, 0, 0, 0⟩)) =
  (.done (.lf (.int .u64 (.op .xor .u64 (.op .shl .u64 (.conv .u64 (.var 0)) (.lit 1)) (.conv .u64 (.op .shr .i64 (.var 0) (.lit 63)))))) ⟨[], ⟨1, 0, 0, 0, 0⟩⟩) := by kernel_rfl
set_option maxRecDepth 100000 in
theorem tUnfold : (runF ⟨tt, fns, {}⟩ (Try.f93.body.getD .skip) Try.f93.results.toList (entry Try.f93.ntmps [.lf (.int .u64 (.var 0))] [] ⟨1, 0, 0, 0, 0⟩)) =
  (.done (.lf (.int .i64 (.op .xor .i64 (.conv .i64 (.op .shr .u64 (.var 0) (.lit 1))) (.op .sub .i64 (.lit 0) (.conv .i64 (.op .and .u64 (.var 0) (.lit 1))))))) ⟨[], ⟨1, 0, 0, 0, 0⟩⟩) := by kernel_rfl
set_option maxRecDepth 100000 in
theorem tRFold : (runF ⟨tt, fns, {}⟩ (Try.f90.body.getD .skip) Try.f90.results.toList (entry Try.f90.ntmps [.lf (.int .i64 (.var 0))] [] ⟨1, 0, 0, 0, 0⟩)) =
  (.br (.cmp .geq (.var 0) (.lit 0)) (.done (.lf (.int .u64 (.op .mul .u64 (.lit 2) (.conv .u64 (.var 0))))) ⟨[], ⟨1, 0, 0, 0, 0⟩⟩) (.done (.lf (.int .u64 (.op .add .u64 (.op .mul .u64 (.lit 2) (.conv .u64 (.op .sub .i64 (.lit 0) (.op .add .i64 (.var 0) (.lit 1))))) (.lit 1)))) ⟨[], ⟨1, 0, 0, 0, 0⟩⟩)) := by kernel_rfl
set_option maxRecDepth 100000 in
theorem tRUnfold : (runF ⟨tt, fns, {}⟩ (Try.f92.body.getD .skip) Try.f92.results.toList (entry Try.f92.ntmps [.lf (.int .u64 (.var 0))] [] ⟨1, 0, 0, 0, 0⟩)) =
  (.br (.cmp .eql (.op .rem .u64 (.var 0) (.lit 2)) (.lit 0)) (.done (.lf (.int .i64 (.conv .i64 (.op .quo .u64 (.var 0) (.lit 2))))) ⟨[], ⟨1, 0, 0, 0, 0⟩⟩) (.done (.lf (.int .i64 (.op .sub .i64 (.op .sub .i64 (.lit 0) (.conv .i64 (.op .quo .u64 (.var 0) (.lit 2)))) (.lit 1)))) ⟨[], ⟨1, 0, 0, 0, 0⟩⟩)) := by kernel_rfl
abbrev tWNumb0 : List LV := [(.int .u8 (.conv .u8 (.op .shr .u64 (.var 0) (.op .mul .i64 (.lit 8) (.var 2)))))]
abbrev tWNumb1 : List LV := [(.int .u8 (.conv .u8 (.op .sub .i64 (.var 1) (.lit 1))))]
abbrev tWNumm0 : Mem := ⟨[(151, [(tSl 2 4 5)]), (5, tWNumb1), (5, tWNumb0)], ⟨3, 0, 0, 6, 3⟩⟩
abbrev tWNumm1 : Mem := ⟨[(151, [(tSl 2 4 5)]), (5, tWNumb1), (5, tWNumb0)], ⟨3, 0, 0, 8, 4⟩⟩
abbrev tWNumm2 : Mem := ⟨[(151, [(tSl 3 6 7)]), (5, tWNumb1), (5, tWNumb0)], ⟨3, 0, 0, 8, 4⟩⟩
abbrev tWNumm3 : Mem := ⟨[(151, [(tSl 2 4 5)]), (5, tWNumb1)], ⟨3, 0, 0, 6, 3⟩⟩
set_option maxRecDepth 100000 in
theorem tWNum : (runF ⟨tt, fns, { loops := [(6, ⟨[(6, .int .i64)], [0]⟩)] }⟩ (Try.f87.body.getD .skip) Try.f87.results.toList (entry Try.f87.ntmps [.lf (.ptr 0 0), .lf (.int .u64 (.var 0))] [(151, [.sl 0 (.var 0) (.var 1)])] ⟨1, 0, 0, 2, 1⟩)) =
  (.call 103 [(.lf (.int .u64 (.var 0)))] ⟨[(151, [(tSl 0 0 1)])], ⟨1, 0, 0, 2, 1⟩⟩ (.lf (tVi 1)) ⟨[(151, [(tSl 0 0 1)])], ⟨2, 0, 0, 2, 1⟩⟩ (.gen (.call ⟨(.builtin .append), #[(.tmp 16), (.tmp 19)], #[65, 65]⟩) 65 [(16, (.lf (tSl 0 0 1))), (19, (.lf (.nsl 1 0 1 1)))] ⟨[(151, [(tSl 0 0 1)]), (5, tWNumb1)], ⟨2, 0, 0, 2, 1⟩⟩ (.some (.lf (tSl 1 2 3))) ⟨[(151, [(tSl 0 0 1)]), (5, tWNumb1)], ⟨2, 0, 0, 4, 2⟩⟩ (.loop 6 ⟨[(.op .sub .i64 (.op .sub .i64 (.var 1) (.lit 1)) (.lit 1))], [], [], [(.var 2), (.var 3)], [(.var 1)]⟩ ⟨[(151, [(tSl 1 2 3)]), (5, tWNumb1)], ⟨2, 0, 0, 4, 2⟩⟩ tWNumm3 (.br (.cmp .geq (.var 2) (.lit 0)) (.need (.nn (.op .mul .i64 (.lit 8) (.var 2))) (.par (.gen (.call ⟨(.builtin .append), #[(.tmp 33), (.tmp 39)], #[65, 65]⟩) 65 [(33, (.lf (tSl 2 4 5))), (39, (.lf (.nsl 2 0 1 1)))] tWNumm0 (.some (.lf (tSl 3 6 7))) tWNumm1 (.again 6 ⟨[(.op .sub .i64 (.var 2) (.lit 1))], [], [], [(.var 6), (.var 7)], [(.var 3)]⟩ tWNumm2)) (.gen (.call ⟨(.builtin .append), #[(.tmp 33), (.tmp 39)], #[65, 65]⟩) 65 [(33, (.lf (tSl 2 4 5))), (39, (.lf (.nsl 2 0 1 1)))] tWNumm0 (.some (.lf (tSl 3 6 7))) tWNumm1 (.again 6 ⟨[(.op .sub .i64 (.var 2) (.lit 1))], [], [], [(.var 6), (.var 7)], [(.var 3)]⟩ tWNumm2)))) (.done (.lf (.ptr 0 0)) tWNumm3))))) := by kernel_rfl
abbrev tWIntm0 : Mem := ⟨[(151, [(tSl 0 0 1)])], ⟨2, 0, 0, 2, 1⟩⟩
abbrev tWIntm1 : Mem := ⟨[(151, [(tSl 1 2 3)])], ⟨2, 0, 0, 4, 2⟩⟩
set_option maxRecDepth 100000 in
theorem tWInt : (runF ⟨tt, fns, { touch := [(87, [0])], ret := [(87, .one (.lf (.is (.ptr 0 0))))] }⟩ (Try.f59.body.getD .skip) Try.f59.results.toList (entry Try.f59.ntmps [.lf (.ptr 0 0), .lf (.int .i64 (.var 0))] [(151, [.sl 0 (.var 0) (.var 1)])] ⟨1, 0, 0, 2, 1⟩)) =
  (.call 88 [(.lf (tVi 0))] ⟨[(151, [(tSl 0 0 1)])], ⟨1, 0, 0, 2, 1⟩⟩ (.lf (.int .u64 (.var 1))) tWIntm0 (.call 87 [(.lf (.ptr 0 0)), (.lf (.int .u64 (.var 1)))] tWIntm0 (.lf (.ptr 0 0)) tWIntm1 (.done (.lf (.ptr 0 0)) tWIntm1))) := by kernel_rfl
abbrev tWBytesm0 : Mem := ⟨[(151, [(tSl 0 0 1)])], ⟨0, 0, 0, 4, 2⟩⟩
set_option maxRecDepth 100000 in
theorem tWBytes : (runF ⟨tt, fns, {}⟩ (Try.f60.body.getD .skip) Try.f60.results.toList (entry Try.f60.ntmps [.lf (.ptr 0 0)] [(151, [.sl 0 (.var 0) (.var 1)])] ⟨0, 0, 0, 2, 1⟩)) =
  (.gen (.call ⟨(.builtin .append), #[(.const (.slice .none 0 0)), (.tmp 8)], #[65, 65]⟩) 65 [(8, (.lf (tSl 0 0 1)))] ⟨[(151, [(tSl 0 0 1)])], ⟨0, 0, 0, 2, 1⟩⟩ (.some (.lf (tSl 1 2 3))) tWBytesm0 (.done (.lf (tSl 1 2 3)) tWBytesm0)) := by kernel_rfl
set_option maxRecDepth 100000 in
theorem tWNew : (runF ⟨tt, fns, {}⟩ (Try.f57.body.getD .skip) Try.f57.results.toList (entry Try.f57.ntmps [] [] ⟨0, 0, 0, 0, 0⟩)) =
  (.done (.lf (.ptr 0 0)) ⟨[(151, [.nilsl])], ⟨0, 0, 0, 0, 0⟩⟩) := by kernel_rfl
set_option maxRecDepth 100000 in
theorem tRNew : (runF ⟨tt, fns, {}⟩ (Try.f64.body.getD .skip) Try.f64.results.toList (entry Try.f64.ntmps [.lf (.sl 0 (.var 0) (.var 1))] [] ⟨0, 0, 0, 2, 1⟩)) =
  (.gen (.call ⟨(.builtin .append), #[(.const (.slice .none 0 0)), (.tmp 3)], #[65, 65]⟩) 65 [(3, (.lf (tSl 0 0 1)))] ⟨[], ⟨0, 0, 0, 2, 1⟩⟩ (.some (.lf (tSl 1 2 3))) ⟨[], ⟨0, 0, 0, 4, 2⟩⟩ (.done (.lf (.ptr 0 0)) ⟨[(162, [(tSl 1 2 3), (tLi 0), (tLi 0)])], ⟨0, 0, 0, 4, 2⟩⟩)) := by kernel_rfl
abbrev tRNumm0 : Mem := ⟨[(162, [(tSl 0 0 1), (tVi 0), (tVi 1)])], ⟨2, 0, 0, 2, 1⟩⟩
abbrev tRNumm1 : Mem := ⟨[(162, [(tSl 0 0 1), (tVi 0), (tVi 1)])], ⟨3, 0, 0, 2, 1⟩⟩
abbrev tRNumm2 : Mem := ⟨[(162, [(tSl 0 0 1), (tVi 0), (tVi 1)])], ⟨3, 0, 0, 4, 2⟩⟩
abbrev tRNumm3 : Mem := ⟨[(162, [(tSl 0 0 1), (tVi 0), (tVi 1)])], ⟨5, 0, 0, 4, 2⟩⟩
abbrev tRNumm4 : Mem := ⟨[(162, [(tSl 0 0 1), (tVi 0), (tVi 1)])], ⟨6, 0, 0, 4, 2⟩⟩
set_option maxRecDepth 100000 in
theorem tRNum : (runF ⟨tt, fns, { loops := [(10, ⟨[(3, .int .u64), (70, .int .i64)], []⟩)] }⟩ (Try.f94.body.getD .skip) Try.f94.results.toList (entry Try.f94.ntmps [.lf (.ptr 0 0)] [(162, [.sl 0 (.var 0) (.var 1), .int .i64 (.var 0), .int .i64 (.var 1)])] ⟨2, 0, 0, 2, 1⟩)) =
  (.br (.cmp .neq (.var 1) (.lit 0)) (.done (.lf (.int .u64 (.lit 0))) tRNumm0) (.br (.cmp .geq (.var 0) (.nat 0)) (.done (.lf (.int .u64 (.lit 0))) ⟨[(162, [(tSl 0 0 1), (tVi 0), (tLi 10)])], ⟨2, 0, 0, 2, 1⟩⟩) (.need (.inb 0 (.var 0) (.nat 0)) (.ld .false (.adr 0 (.var 0) 1 0) [(.int .u8 (.var 2))] tRNumm0 tRNumm1 (.br (.cmp .gtr (.conv .i64 (.var 2)) (.lit 8)) (.done (.lf (.int .u64 (.lit 0))) ⟨[(162, [(tSl 0 0 1), (tVi 0), (tLi 11)])], ⟨3, 0, 0, 2, 1⟩⟩) (.br (.cmp .gtr (.conv .i64 (.var 2)) (.op .sub .i64 (.op .sub .i64 (.nat 0) (.var 0)) (.lit 1))) (.done (.lf (.int .u64 (.lit 0))) ⟨[(162, [(tSl 0 0 1), (tVi 0), (tLi 10)])], ⟨3, 0, 0, 2, 1⟩⟩) (.gen (.slice 65 (.tmp 55) (.some (.tmp 60)) (.some (.tmp 67)) .none) 65 [(55, (.lf (tSl 0 0 1))), (60, (.lf (.int .i64 (.op .add .i64 (.var 0) (.lit 1))))), (67, (.lf (.int .i64 (.op .add .i64 (.op .add .i64 (.var 0) (.lit 1)) (.conv .i64 (.var 2))))))] tRNumm1 (.some (.lf (tSl 1 2 3))) tRNumm2 (.loop 10 ⟨[(.lit 0), (.lit 0)], [], [], [], []⟩ tRNumm2 tRNumm3 (.br (.cmp .lss (.var 4) (.nat 2)) (.need (.inb 1 (.var 4) (.nat 2)) (.ld .false (.adr 1 (.var 4) 1 0) [(.int .u8 (.var 5))] tRNumm3 tRNumm4 (.again 10 ⟨[(.op .or .u64 (.op .shl .u64 (.var 3) (.lit 8)) (.conv .u64 (.var 5))), (.op .add .i64 (.var 4) (.lit 1))], [], [], [], []⟩ tRNumm4))) (.call 103 [(.lf (.int .u64 (.var 3)))] tRNumm3 (.lf (tVi 5)) tRNumm4 (.br (.cmp .neq (.var 5) (.op .add .i64 (.conv .i64 (.var 2)) (.lit 1))) (.done (.lf (.int .u64 (.lit 0))) ⟨[(162, [(tSl 0 0 1), (tVi 0), (tLi 11)])], ⟨6, 0, 0, 4, 2⟩⟩) (.done (.lf (.int .u64 (.var 3))) ⟨[(162, [(tSl 0 0 1), (.int .i64 (.op .add .i64 (.var 0) (.op .add .i64 (.conv .i64 (.var 2)) (.lit 1)))), (tVi 1)])], ⟨6, 0, 0, 4, 2⟩⟩)))))))))))) := by kernel_rfl
abbrev tRIntm0 : Mem := ⟨[(162, [(tSl 1 2 3), (tVi 2), (tVi 3)])], ⟨5, 0, 0, 4, 2⟩⟩
abbrev tRIntm1 : Mem := ⟨[(162, [(tSl 1 2 3), (tVi 2), (tVi 3)])], ⟨6, 0, 0, 4, 2⟩⟩
set_option maxRecDepth 100000 in
theorem tRInt : (runF ⟨tt, fns, { touch := [(94, [0])] }⟩ (Try.f65.body.getD .skip) Try.f65.results.toList (entry Try.f65.ntmps [.lf (.ptr 0 0)] [(162, [.sl 0 (.var 0) (.var 1), .int .i64 (.var 0), .int .i64 (.var 1)])] ⟨2, 0, 0, 2, 1⟩)) =
  (.call 94 [(.lf (.ptr 0 0))] ⟨[(162, [(tSl 0 0 1), (tVi 0), (tVi 1)])], ⟨2, 0, 0, 2, 1⟩⟩ (.lf (.int .u64 (.var 4))) tRIntm0 (.call 93 [(.lf (.int .u64 (.var 4)))] tRIntm0 (.lf (tVi 5)) tRIntm1 (.done (.lf (tVi 5)) tRIntm1))) := by kernel_rfl
set_option maxRecDepth 100000 in
theorem tRErr : (runF ⟨tt, fns, {}⟩ (Try.f95.body.getD .skip) Try.f95.results.toList (entry Try.f95.ntmps [.lf (.ptr 0 0)] [(162, [.sl 0 (.var 0) (.var 1), .int .i64 (.var 0), .int .i64 (.var 1)])] ⟨2, 0, 0, 2, 1⟩)) =
  (.done (.lf (tVi 1)) ⟨[(162, [(tSl 0 0 1), (tVi 0), (tVi 1)])], ⟨2, 0, 0, 2, 1⟩⟩) := by kernel_rfl
abbrev tRDonem0 : Mem := ⟨[(162, [(tSl 0 0 1), (tVi 0), (tLi 13)])], ⟨3, 0, 0, 2, 1⟩⟩
abbrev tRDonem1 : Mem := ⟨[(162, [(tSl 0 0 1), (tVi 0), (tVi 1)])], ⟨2, 0, 0, 2, 1⟩⟩
abbrev tRDonem2 : Mem := ⟨[(162, [(tSl 0 0 1), (tVi 0), (tVi 1)])], ⟨3, 0, 0, 2, 1⟩⟩
set_option maxRecDepth 100000 in
theorem tRDone : (runF ⟨tt, fns, { touch := [] }⟩ (Try.f67.body.getD .skip) Try.f67.results.toList (entry Try.f67.ntmps [.lf (.ptr 0 0)] [(162, [.sl 0 (.var 0) (.var 1), .int .i64 (.var 0), .int .i64 (.var 1)])] ⟨2, 0, 0, 2, 1⟩)) =
  (.br (.cmp .eql (.var 1) (.lit 0)) (.br (.cmp .lss (.var 0) (.nat 0)) (.call 95 [(.lf (.ptr 0 0))] ⟨[(162, [(tSl 0 0 1), (tVi 0), (tLi 13)])], ⟨2, 0, 0, 2, 1⟩⟩ (.lf (tVi 2)) tRDonem0 (.done (.lf (tVi 2)) tRDonem0)) (.call 95 [(.lf (.ptr 0 0))] tRDonem1 (.lf (tVi 2)) tRDonem2 (.done (.lf (tVi 2)) tRDonem2))) (.call 95 [(.lf (.ptr 0 0))] tRDonem1 (.lf (tVi 2)) tRDonem2 (.done (.lf (tVi 2)) tRDonem2))) := by kernel_rfl
abbrev tQNumb0 : List LV := [(.int .u8 (.conv .u8 (.op .rem .u64 (.op .quo .u64 (.op .quo .u64 (.op .quo .u64 (.op .quo .u64 (.op .quo .u64 (.op .quo .u64 (.op .quo .u64 (.op .quo .u64 (.op .quo .u64 (.var 0) (.lit 256)) (.lit 256)) (.lit 256)) (.lit 256)) (.lit 256)) (.lit 256)) (.lit 256)) (.lit 256)) (.lit 256)) (.lit 256))))]
abbrev tQNumb1 : List LV := [(.int .u8 (.conv .u8 (.op .rem .u64 (.op .quo .u64 (.op .quo .u64 (.op .quo .u64 (.op .quo .u64 (.op .quo .u64 (.op .quo .u64 (.op .quo .u64 (.op .quo .u64 (.var 0) (.lit 256)) (.lit 256)) (.lit 256)) (.lit 256)) (.lit 256)) (.lit 256)) (.lit 256)) (.lit 256)) (.lit 256))))]
abbrev tQNumb2 : List LV := [(.int .u8 (.conv .u8 (.op .rem .u64 (.op .quo .u64 (.op .quo .u64 (.op .quo .u64 (.op .quo .u64 (.op .quo .u64 (.op .quo .u64 (.op .quo .u64 (.var 0) (.lit 256)) (.lit 256)) (.lit 256)) (.lit 256)) (.lit 256)) (.lit 256)) (.lit 256)) (.lit 256))))]
abbrev tQNumb3 : List LV := [(.int .u8 (.conv .u8 (.op .rem .u64 (.op .quo .u64 (.op .quo .u64 (.op .quo .u64 (.op .quo .u64 (.op .quo .u64 (.op .quo .u64 (.var 0) (.lit 256)) (.lit 256)) (.lit 256)) (.lit 256)) (.lit 256)) (.lit 256)) (.lit 256))))]
abbrev tQNumb4 : List LV := [(.int .u8 (.conv .u8 (.op .rem .u64 (.op .quo .u64 (.op .quo .u64 (.op .quo .u64 (.op .quo .u64 (.op .quo .u64 (.var 0) (.lit 256)) (.lit 256)) (.lit 256)) (.lit 256)) (.lit 256)) (.lit 256))))]
abbrev tQNumb5 : List LV := [(.int .u8 (.conv .u8 (.op .rem .u64 (.op .quo .u64 (.op .quo .u64 (.op .quo .u64 (.op .quo .u64 (.var 0) (.lit 256)) (.lit 256)) (.lit 256)) (.lit 256)) (.lit 256))))]
abbrev tQNumb6 : List LV := [(.int .u8 (.conv .u8 (.op .rem .u64 (.op .quo .u64 (.op .quo .u64 (.op .quo .u64 (.var 0) (.lit 256)) (.lit 256)) (.lit 256)) (.lit 256))))]
abbrev tQNumb7 : List LV := [(.int .u8 (.conv .u8 (.op .rem .u64 (.op .quo .u64 (.op .quo .u64 (.var 0) (.lit 256)) (.lit 256)) (.lit 256))))]
abbrev tQNumb8 : List LV := [(.int .u8 (.conv .u8 (.op .rem .u64 (.op .quo .u64 (.var 0) (.lit 256)) (.lit 256))))]
abbrev tQNumb9 : List LV := [(.int .u8 (.conv .u8 (.op .rem .u64 (.var 0) (.lit 256))))]
abbrev tQNumm0 : Mem := ⟨[(5, []), (5, tQNumb9), (5, tQNumb8), (5, tQNumb7), (5, tQNumb6), (5, tQNumb5), (5, tQNumb4), (5, tQNumb3), (5, tQNumb2), (5, tQNumb1), (5, [(.int .u8 (.conv .u8 (.nat 16)))])], ⟨1, 0, 0, 20, 10⟩⟩
abbrev tQNumm1 : Mem := ⟨[(5, []), (5, tQNumb9), (5, tQNumb8), (5, tQNumb7), (5, tQNumb6), (5, tQNumb5), (5, tQNumb4), (5, tQNumb3), (5, tQNumb2), (5, [(.int .u8 (.conv .u8 (.nat 14)))])], ⟨1, 0, 0, 18, 9⟩⟩
abbrev tQNumm2 : Mem := ⟨[(5, []), (5, tQNumb9), (5, tQNumb8), (5, tQNumb7), (5, tQNumb6), (5, tQNumb5), (5, tQNumb4), (5, tQNumb3), (5, [(.int .u8 (.conv .u8 (.nat 12)))])], ⟨1, 0, 0, 16, 8⟩⟩
abbrev tQNumm3 : Mem := ⟨[(5, []), (5, tQNumb9), (5, tQNumb8), (5, tQNumb7), (5, tQNumb6), (5, tQNumb5), (5, tQNumb4), (5, [(.int .u8 (.conv .u8 (.nat 10)))])], ⟨1, 0, 0, 14, 7⟩⟩
abbrev tQNumm4 : Mem := ⟨[(5, []), (5, tQNumb9), (5, tQNumb8), (5, tQNumb7), (5, tQNumb6), (5, tQNumb5), (5, [(.int .u8 (.conv .u8 (.nat 8)))])], ⟨1, 0, 0, 12, 6⟩⟩
abbrev tQNumm5 : Mem := ⟨[(5, []), (5, tQNumb9), (5, tQNumb8), (5, tQNumb7), (5, tQNumb6), (5, [(.int .u8 (.conv .u8 (.nat 6)))])], ⟨1, 0, 0, 10, 5⟩⟩
abbrev tQNumm6 : Mem := ⟨[(5, []), (5, tQNumb9), (5, tQNumb8), (5, tQNumb7), (5, [(.int .u8 (.conv .u8 (.nat 4)))])], ⟨1, 0, 0, 8, 4⟩⟩
abbrev tQNumm7 : Mem := ⟨[(5, []), (5, tQNumb9), (5, tQNumb8), (5, [(.int .u8 (.conv .u8 (.nat 2)))])], ⟨1, 0, 0, 6, 3⟩⟩
abbrev tQNumm8 : Mem := ⟨[(5, []), (5, tQNumb9), (5, [(.int .u8 (.conv .u8 (.nat 0)))])], ⟨1, 0, 0, 4, 2⟩⟩
abbrev tQNumm9 : Mem := ⟨[(5, []), (5, [(.int .u8 (.conv .u8 (.lit 0)))])], ⟨1, 0, 0, 2, 1⟩⟩
set_option maxRecDepth 100000 in
theorem tQNum : (runF ⟨tt, fns, { unroll := [2], rounds := 10 }⟩ (Try.f89.body.getD .skip) Try.f89.results.toList (entry Try.f89.ntmps [.lf (.int .u64 (.var 0))] [] ⟨1, 0, 0, 0, 0⟩)) =
  (.br (.cmp .gtr (.var 0) (.lit 0)) (.gen (.call ⟨(.builtin .append), #[(.tmp 10), (.tmp 11)], #[65, 65]⟩) 65 [(10, (.lf (.nsl 1 0 1 1))), (11, (.lf (.nsl 0 0 0 0)))] ⟨[(5, []), (5, tQNumb9)], ⟨1, 0, 0, 0, 0⟩⟩ (.some (.lf (tSl 0 0 1))) ⟨[(5, []), (5, tQNumb9)], ⟨1, 0, 0, 2, 1⟩⟩ (.br (.cmp .gtr (.op .quo .u64 (.var 0) (.lit 256)) (.lit 0)) (.gen (.call ⟨(.builtin .append), #[(.tmp 10), (.tmp 11)], #[65, 65]⟩) 65 [(10, (.lf (.nsl 2 0 1 1))), (11, (.lf (tSl 0 0 1)))] ⟨[(5, []), (5, tQNumb9), (5, tQNumb8)], ⟨1, 0, 0, 2, 1⟩⟩ (.some (.lf (tSl 1 2 3))) ⟨[(5, []), (5, tQNumb9), (5, tQNumb8)], ⟨1, 0, 0, 4, 2⟩⟩ (.br (.cmp .gtr (.op .quo .u64 (.op .quo .u64 (.var 0) (.lit 256)) (.lit 256)) (.lit 0)) (.gen (.call ⟨(.builtin .append), #[(.tmp 10), (.tmp 11)], #[65, 65]⟩) 65 [(10, (.lf (.nsl 3 0 1 1))), (11, (.lf (tSl 1 2 3)))] ⟨[(5, []), (5, tQNumb9), (5, tQNumb8), (5, tQNumb7)], ⟨1, 0, 0, 4, 2⟩⟩ (.some (.lf (tSl 2 4 5))) ⟨[(5, []), (5, tQNumb9), (5, tQNumb8), (5, tQNumb7)], ⟨1, 0, 0, 6, 3⟩⟩ (.br (.cmp .gtr (.op .quo .u64 (.op .quo .u64 (.op .quo .u64 (.var 0) (.lit 256)) (.lit 256)) (.lit 256)) (.lit 0)) (.gen (.call ⟨(.builtin .append), #[(.tmp 10), (.tmp 11)], #[65, 65]⟩) 65 [(10, (.lf (.nsl 4 0 1 1))), (11, (.lf (tSl 2 4 5)))] ⟨[(5, []), (5, tQNumb9), (5, tQNumb8), (5, tQNumb7), (5, tQNumb6)], ⟨1, 0, 0, 6, 3⟩⟩ (.some (.lf (tSl 3 6 7))) ⟨[(5, []), (5, tQNumb9), (5, tQNumb8), (5, tQNumb7), (5, tQNumb6)], ⟨1, 0, 0, 8, 4⟩⟩ (.br (.cmp .gtr (.op .quo .u64 (.op .quo .u64 (.op .quo .u64 (.op .quo .u64 (.var 0) (.lit 256)) (.lit 256)) (.lit 256)) (.lit 256)) (.lit 0)) (.gen (.call ⟨(.builtin .append), #[(.tmp 10), (.tmp 11)], #[65, 65]⟩) 65 [(10, (.lf (.nsl 5 0 1 1))), (11, (.lf (tSl 3 6 7)))] ⟨[(5, []), (5, tQNumb9), (5, tQNumb8), (5, tQNumb7), (5, tQNumb6), (5, tQNumb5)], ⟨1, 0, 0, 8, 4⟩⟩ (.some (.lf (tSl 4 8 9))) ⟨[(5, []), (5, tQNumb9), (5, tQNumb8), (5, tQNumb7), (5, tQNumb6), (5, tQNumb5)], ⟨1, 0, 0, 10, 5⟩⟩ (.br (.cmp .gtr (.op .quo .u64 (.op .quo .u64 (.op .quo .u64 (.op .quo .u64 (.op .quo .u64 (.var 0) (.lit 256)) (.lit 256)) (.lit 256)) (.lit 256)) (.lit 256)) (.lit 0)) (.gen (.call ⟨(.builtin .append), #[(.tmp 10), (.tmp 11)], #[65, 65]⟩) 65 [(10, (.lf (.nsl 6 0 1 1))), (11, (.lf (tSl 4 8 9)))] ⟨[(5, []), (5, tQNumb9), (5, tQNumb8), (5, tQNumb7), (5, tQNumb6), (5, tQNumb5), (5, tQNumb4)], ⟨1, 0, 0, 10, 5⟩⟩ (.some (.lf (tSl 5 10 11))) ⟨[(5, []), (5, tQNumb9), (5, tQNumb8), (5, tQNumb7), (5, tQNumb6), (5, tQNumb5), (5, tQNumb4)], ⟨1, 0, 0, 12, 6⟩⟩ (.br (.cmp .gtr (.op .quo .u64 (.op .quo .u64 (.op .quo .u64 (.op .quo .u64 (.op .quo .u64 (.op .quo .u64 (.var 0) (.lit 256)) (.lit 256)) (.lit 256)) (.lit 256)) (.lit 256)) (.lit 256)) (.lit 0)) (.gen (.call ⟨(.builtin .append), #[(.tmp 10), (.tmp 11)], #[65, 65]⟩) 65 [(10, (.lf (.nsl 7 0 1 1))), (11, (.lf (tSl 5 10 11)))] ⟨[(5, []), (5, tQNumb9), (5, tQNumb8), (5, tQNumb7), (5, tQNumb6), (5, tQNumb5), (5, tQNumb4), (5, tQNumb3)], ⟨1, 0, 0, 12, 6⟩⟩ (.some (.lf (tSl 6 12 13))) ⟨[(5, []), (5, tQNumb9), (5, tQNumb8), (5, tQNumb7), (5, tQNumb6), (5, tQNumb5), (5, tQNumb4), (5, tQNumb3)], ⟨1, 0, 0, 14, 7⟩⟩ (.br (.cmp .gtr (.op .quo .u64 (.op .quo .u64 (.op .quo .u64 (.op .quo .u64 (.op .quo .u64 (.op .quo .u64 (.op .quo .u64 (.var 0) (.lit 256)) (.lit 256)) (.lit 256)) (.lit 256)) (.lit 256)) (.lit 256)) (.lit 256)) (.lit 0)) (.gen (.call ⟨(.builtin .append), #[(.tmp 10), (.tmp 11)], #[65, 65]⟩) 65 [(10, (.lf (.nsl 8 0 1 1))), (11, (.lf (tSl 6 12 13)))] ⟨[(5, []), (5, tQNumb9), (5, tQNumb8), (5, tQNumb7), (5, tQNumb6), (5, tQNumb5), (5, tQNumb4), (5, tQNumb3), (5, tQNumb2)], ⟨1, 0, 0, 14, 7⟩⟩ (.some (.lf (tSl 7 14 15))) ⟨[(5, []), (5, tQNumb9), (5, tQNumb8), (5, tQNumb7), (5, tQNumb6), (5, tQNumb5), (5, tQNumb4), (5, tQNumb3), (5, tQNumb2)], ⟨1, 0, 0, 16, 8⟩⟩ (.br (.cmp .gtr (.op .quo .u64 (.op .quo .u64 (.op .quo .u64 (.op .quo .u64 (.op .quo .u64 (.op .quo .u64 (.op .quo .u64 (.op .quo .u64 (.var 0) (.lit 256)) (.lit 256)) (.lit 256)) (.lit 256)) (.lit 256)) (.lit 256)) (.lit 256)) (.lit 256)) (.lit 0)) (.gen (.call ⟨(.builtin .append), #[(.tmp 10), (.tmp 11)], #[65, 65]⟩) 65 [(10, (.lf (.nsl 9 0 1 1))), (11, (.lf (tSl 7 14 15)))] ⟨[(5, []), (5, tQNumb9), (5, tQNumb8), (5, tQNumb7), (5, tQNumb6), (5, tQNumb5), (5, tQNumb4), (5, tQNumb3), (5, tQNumb2), (5, tQNumb1)], ⟨1, 0, 0, 16, 8⟩⟩ (.some (.lf (tSl 8 16 17))) ⟨[(5, []), (5, tQNumb9), (5, tQNumb8), (5, tQNumb7), (5, tQNumb6), (5, tQNumb5), (5, tQNumb4), (5, tQNumb3), (5, tQNumb2), (5, tQNumb1)], ⟨1, 0, 0, 18, 9⟩⟩ (.br (.cmp .gtr (.op .quo .u64 (.op .quo .u64 (.op .quo .u64 (.op .quo .u64 (.op .quo .u64 (.op .quo .u64 (.op .quo .u64 (.op .quo .u64 (.op .quo .u64 (.var 0) (.lit 256)) (.lit 256)) (.lit 256)) (.lit 256)) (.lit 256)) (.lit 256)) (.lit 256)) (.lit 256)) (.lit 256)) (.lit 0)) (.gen (.call ⟨(.builtin .append), #[(.tmp 10), (.tmp 11)], #[65, 65]⟩) 65 [(10, (.lf (.nsl 10 0 1 1))), (11, (.lf (tSl 8 16 17)))] ⟨[(5, []), (5, tQNumb9), (5, tQNumb8), (5, tQNumb7), (5, tQNumb6), (5, tQNumb5), (5, tQNumb4), (5, tQNumb3), (5, tQNumb2), (5, tQNumb1), (5, tQNumb0)], ⟨1, 0, 0, 18, 9⟩⟩ (.some (.lf (tSl 9 18 19))) ⟨[(5, []), (5, tQNumb9), (5, tQNumb8), (5, tQNumb7), (5, tQNumb6), (5, tQNumb5), (5, tQNumb4), (5, tQNumb3), (5, tQNumb2), (5, tQNumb1), (5, tQNumb0)], ⟨1, 0, 0, 20, 10⟩⟩ (.fail "iter" 0)) (.gen (.call ⟨(.builtin .append), #[(.tmp 18), (.tmp 19)], #[65, 65]⟩) 65 [(18, (.lf (.nsl 10 0 1 1))), (19, (.lf (tSl 8 16 17)))] ⟨[(5, []), (5, tQNumb9), (5, tQNumb8), (5, tQNumb7), (5, tQNumb6), (5, tQNumb5), (5, tQNumb4), (5, tQNumb3), (5, tQNumb2), (5, tQNumb1), (5, [(.int .u8 (.conv .u8 (.nat 16)))])], ⟨1, 0, 0, 18, 9⟩⟩ (.some (.lf (tSl 9 18 19))) tQNumm0 (.done (.lf (tSl 9 18 19)) tQNumm0)))) (.gen (.call ⟨(.builtin .append), #[(.tmp 18), (.tmp 19)], #[65, 65]⟩) 65 [(18, (.lf (.nsl 9 0 1 1))), (19, (.lf (tSl 7 14 15)))] ⟨[(5, []), (5, tQNumb9), (5, tQNumb8), (5, tQNumb7), (5, tQNumb6), (5, tQNumb5), (5, tQNumb4), (5, tQNumb3), (5, tQNumb2), (5, [(.int .u8 (.conv .u8 (.nat 14)))])], ⟨1, 0, 0, 16, 8⟩⟩ (.some (.lf (tSl 8 16 17))) tQNumm1 (.done (.lf (tSl 8 16 17)) tQNumm1)))) (.gen (.call ⟨(.builtin .append), #[(.tmp 18), (.tmp 19)], #[65, 65]⟩) 65 [(18, (.lf (.nsl 8 0 1 1))), (19, (.lf (tSl 6 12 13)))] ⟨[(5, []), (5, tQNumb9), (5, tQNumb8), (5, tQNumb7), (5, tQNumb6), (5, tQNumb5), (5, tQNumb4), (5, tQNumb3), (5, [(.int .u8 (.conv .u8 (.nat 12)))])], ⟨1, 0, 0, 14, 7⟩⟩ (.some (.lf (tSl 7 14 15))) tQNumm2 (.done (.lf (tSl 7 14 15)) tQNumm2)))) (.gen (.call ⟨(.builtin .append), #[(.tmp 18), (.tmp 19)], #[65, 65]⟩) 65 [(18, (.lf (.nsl 7 0 1 1))), (19, (.lf (tSl 5 10 11)))] ⟨[(5, []), (5, tQNumb9), (5, tQNumb8), (5, tQNumb7), (5, tQNumb6), (5, tQNumb5), (5, tQNumb4), (5, [(.int .u8 (.conv .u8 (.nat 10)))])], ⟨1, 0, 0, 12, 6⟩⟩ (.some (.lf (tSl 6 12 13))) tQNumm3 (.done (.lf (tSl 6 12 13)) tQNumm3)))) (.gen (.call ⟨(.builtin .append), #[(.tmp 18), (.tmp 19)], #[65, 65]⟩) 65 [(18, (.lf (.nsl 6 0 1 1))), (19, (.lf (tSl 4 8 9)))] ⟨[(5, []), (5, tQNumb9), (5, tQNumb8), (5, tQNumb7), (5, tQNumb6), (5, tQNumb5), (5, [(.int .u8 (.conv .u8 (.nat 8)))])], ⟨1, 0, 0, 10, 5⟩⟩ (.some (.lf (tSl 5 10 11))) tQNumm4 (.done (.lf (tSl 5 10 11)) tQNumm4)))) (.gen (.call ⟨(.builtin .append), #[(.tmp 18), (.tmp 19)], #[65, 65]⟩) 65 [(18, (.lf (.nsl 5 0 1 1))), (19, (.lf (tSl 3 6 7)))] ⟨[(5, []), (5, tQNumb9), (5, tQNumb8), (5, tQNumb7), (5, tQNumb6), (5, [(.int .u8 (.conv .u8 (.nat 6)))])], ⟨1, 0, 0, 8, 4⟩⟩ (.some (.lf (tSl 4 8 9))) tQNumm5 (.done (.lf (tSl 4 8 9)) tQNumm5)))) (.gen (.call ⟨(.builtin .append), #[(.tmp 18), (.tmp 19)], #[65, 65]⟩) 65 [(18, (.lf (.nsl 4 0 1 1))), (19, (.lf (tSl 2 4 5)))] ⟨[(5, []), (5, tQNumb9), (5, tQNumb8), (5, tQNumb7), (5, [(.int .u8 (.conv .u8 (.nat 4)))])], ⟨1, 0, 0, 6, 3⟩⟩ (.some (.lf (tSl 3 6 7))) tQNumm6 (.done (.lf (tSl 3 6 7)) tQNumm6)))) (.gen (.call ⟨(.builtin .append), #[(.tmp 18), (.tmp 19)], #[65, 65]⟩) 65 [(18, (.lf (.nsl 3 0 1 1))), (19, (.lf (tSl 1 2 3)))] ⟨[(5, []), (5, tQNumb9), (5, tQNumb8), (5, [(.int .u8 (.conv .u8 (.nat 2)))])], ⟨1, 0, 0, 4, 2⟩⟩ (.some (.lf (tSl 2 4 5))) tQNumm7 (.done (.lf (tSl 2 4 5)) tQNumm7)))) (.gen (.call ⟨(.builtin .append), #[(.tmp 18), (.tmp 19)], #[65, 65]⟩) 65 [(18, (.lf (.nsl 2 0 1 1))), (19, (.lf (tSl 0 0 1)))] ⟨[(5, []), (5, tQNumb9), (5, [(.int .u8 (.conv .u8 (.nat 0)))])], ⟨1, 0, 0, 2, 1⟩⟩ (.some (.lf (tSl 1 2 3))) tQNumm8 (.done (.lf (tSl 1 2 3)) tQNumm8)))) (.gen (.call ⟨(.builtin .append), #[(.tmp 18), (.tmp 19)], #[65, 65]⟩) 65 [(18, (.lf (.nsl 1 0 1 1))), (19, (.lf (.nsl 0 0 0 0)))] ⟨[(5, []), (5, [(.int .u8 (.conv .u8 (.lit 0)))])], ⟨1, 0, 0, 0, 0⟩⟩ (.some (.lf (tSl 0 0 1))) tQNumm9 (.done (.lf (tSl 0 0 1)) tQNumm9))) := by kernel_rfl
set_option maxRecDepth 100000 in
theorem tQInt : (runF ⟨tt, fns, {}⟩ (Try.f61.body.getD .skip) Try.f61.results.toList (entry Try.f61.ntmps [.lf (.int .i64 (.var 0))] [] ⟨1, 0, 0, 0, 0⟩)) =
  (.call 90 [(.lf (tVi 0))] ⟨[], ⟨1, 0, 0, 0, 0⟩⟩ (.lf (.int .u64 (.var 1))) ⟨[], ⟨2, 0, 0, 0, 0⟩⟩ (.call 89 [(.lf (.int .u64 (.var 1)))] ⟨[], ⟨2, 0, 0, 0, 0⟩⟩ (.lf (tSl 0 0 1)) ⟨[], ⟨2, 0, 0, 2, 1⟩⟩ (.done (.lf (tSl 0 0 1)) ⟨[], ⟨2, 0, 0, 2, 1⟩⟩))) := by kernel_rfl
abbrev tQReadNumm0 : Mem := ⟨[(157, [(tSl 0 0 1), (tVi 0)]), (157, [.nilsl, (tLi 0)])], ⟨2, 0, 0, 2, 1⟩⟩
abbrev tQReadNumm1 : Mem := ⟨[(157, [(tSl 0 0 1), (tVi 0)]), (157, [.nilsl, (tLi 0)])], ⟨3, 0, 0, 2, 1⟩⟩
abbrev tQReadNumm2 : Mem := ⟨[(157, [(tSl 0 0 1), (tVi 0)]), (157, [.nilsl, (tLi 0)])], ⟨5, 0, 0, 2, 1⟩⟩
abbrev tQReadNumm3 : Mem := ⟨[(157, [(tSl 0 0 1), (tVi 0)]), (157, [.nilsl, (tLi 0)])], ⟨6, 0, 0, 2, 1⟩⟩
abbrev tQReadNumm4 : Mem := ⟨[(157, [(tSl 0 0 1), (tVi 0)]), (157, [.nilsl, (tLi 0)])], ⟨4, 0, 0, 2, 1⟩⟩
set_option maxRecDepth 100000 in
theorem tQReadNum : (runF ⟨tt, fns, { loops := [(18, ⟨[(5, .int .u64), (6, .int .i64)], []⟩)] }⟩ (Try.f91.body.getD .skip) Try.f91.results.toList (entry Try.f91.ntmps [.agg [.sl 0 (.var 0) (.var 1), .int .i64 (.var 0)]] [] ⟨1, 0, 0, 2, 1⟩)) =
  (.br (.cmp .neq (.var 0) (.lit 0)) (.done (.tup [(.true, [(tSl 0 0 1), (tVi 0)]), (.false, [(.int .u64 (.lit 0))])]) ⟨[(157, [(tSl 0 0 1), (tVi 0)]), (157, [(tSl 0 0 1), (tVi 0)])], ⟨1, 0, 0, 2, 1⟩⟩) (.br (.cmp .eql (.nat 0) (.lit 0)) (.done (.tup [(.true, [(tSl 0 0 1), (tLi 10)]), (.false, [(.int .u64 (.lit 0))])]) ⟨[(157, [(tSl 0 0 1), (tLi 10)]), (157, [(tSl 0 0 1), (tLi 10)])], ⟨1, 0, 0, 2, 1⟩⟩) (.need (.inb 0 (.lit 0) (.nat 0)) (.ld .false (.adr 0 (.lit 0) 1 0) [(.int .u8 (.var 1))] ⟨[(157, [(tSl 0 0 1), (tVi 0)]), (157, [.nilsl, (tLi 0)])], ⟨1, 0, 0, 2, 1⟩⟩ tQReadNumm0 (.br (.cmp .gtr (.conv .i64 (.var 1)) (.lit 8)) (.done (.tup [(.true, [(tSl 0 0 1), (tLi 11)]), (.false, [(.int .u64 (.lit 0))])]) ⟨[(157, [(tSl 0 0 1), (tLi 11)]), (157, [(tSl 0 0 1), (tLi 11)])], ⟨2, 0, 0, 2, 1⟩⟩) (.br (.cmp .lss (.op .sub .i64 (.nat 0) (.lit 1)) (.conv .i64 (.var 1))) (.done (.tup [(.true, [(tSl 0 0 1), (tLi 10)]), (.false, [(.int .u64 (.lit 0))])]) ⟨[(157, [(tSl 0 0 1), (tLi 10)]), (157, [(tSl 0 0 1), (tLi 10)])], ⟨2, 0, 0, 2, 1⟩⟩) (.br (.cmp .gtr (.conv .i64 (.var 1)) (.lit 0)) (.need (.inb 0 (.lit 1) (.nat 0)) (.ld .false (.adr 0 (.lit 1) 1 0) [(.int .u8 (.var 2))] tQReadNumm0 tQReadNumm1 (.br (.cmp .eql (.var 2) (.lit 0)) (.done (.tup [(.true, [(tSl 0 0 1), (tLi 11)]), (.false, [(.int .u64 (.lit 0))])]) ⟨[(157, [(tSl 0 0 1), (tLi 11)]), (157, [(tSl 0 0 1), (tLi 11)])], ⟨3, 0, 0, 2, 1⟩⟩) (.loop 18 ⟨[(.lit 0), (.lit 1)], [], [], [], []⟩ tQReadNumm1 tQReadNumm2 (.br (.cmp .leq (.var 4) (.conv .i64 (.var 1))) (.need (.inb 0 (.var 4) (.nat 0)) (.ld .false (.adr 0 (.var 4) 1 0) [(.int .u8 (.var 5))] tQReadNumm2 tQReadNumm3 (.again 18 ⟨[(.op .add .u64 (.op .mul .u64 (.lit 256) (.var 3)) (.conv .u64 (.var 5))), (.op .add .i64 (.var 4) (.lit 1))], [], [], [], []⟩ tQReadNumm3))) (.gen (.slice 65 (.tmp 60) (.some (.tmp 62)) .none .none) 65 [(60, (.lf (tSl 0 0 1))), (62, (.lf (.int .i64 (.op .add .i64 (.conv .i64 (.var 1)) (.lit 1)))))] tQReadNumm2 (.some (.lf (tSl 1 2 3))) ⟨[(157, [(tSl 0 0 1), (tVi 0)]), (157, [.nilsl, (tLi 0)])], ⟨5, 0, 0, 4, 2⟩⟩ (.done (.tup [(.true, [(tSl 1 2 3), (tVi 0)]), (.false, [(.int .u64 (.var 3))])]) ⟨[(157, [(tSl 1 2 3), (tVi 0)]), (157, [(tSl 1 2 3), (tVi 0)])], ⟨5, 0, 0, 4, 2⟩⟩))))))) (.loop 18 ⟨[(.lit 0), (.lit 1)], [], [], [], []⟩ tQReadNumm0 tQReadNumm4 (.br (.cmp .leq (.var 3) (.conv .i64 (.var 1))) (.need (.inb 0 (.var 3) (.nat 0)) (.ld .false (.adr 0 (.var 3) 1 0) [(.int .u8 (.var 4))] tQReadNumm4 tQReadNumm2 (.again 18 ⟨[(.op .add .u64 (.op .mul .u64 (.lit 256) (.var 2)) (.conv .u64 (.var 4))), (.op .add .i64 (.var 3) (.lit 1))], [], [], [], []⟩ tQReadNumm2))) (.gen (.slice 65 (.tmp 60) (.some (.tmp 62)) .none .none) 65 [(60, (.lf (tSl 0 0 1))), (62, (.lf (.int .i64 (.op .add .i64 (.conv .i64 (.var 1)) (.lit 1)))))] tQReadNumm4 (.some (.lf (tSl 1 2 3))) ⟨[(157, [(tSl 0 0 1), (tVi 0)]), (157, [.nilsl, (tLi 0)])], ⟨4, 0, 0, 4, 2⟩⟩ (.done (.tup [(.true, [(tSl 1 2 3), (tVi 0)]), (.false, [(.int .u64 (.var 2))])]) ⟨[(157, [(tSl 1 2 3), (tVi 0)]), (157, [(tSl 1 2 3), (tVi 0)])], ⟨4, 0, 0, 4, 2⟩⟩))))))))))) := by kernel_rfl
end Go.Proofs.Ytfjiolgdcphjhaa

namespace Go.Proofs.Ytfjiolgdcphjhaa
open Go.ChangeShapes Go.WideShapes Go.ChangeAt Go.RowKit Go.Syn Go.Eng
set_option linter.unusedVariables false
set_option linter.unusedSimpArgs false
def lenTab : ByteArray := ⟨#[0, 1, 2, 2, 3, 3, 3, 3, 4, 4, 4, 4, 4, 4, 4, 4, 5, 5, 5, 5, 5, 5, 5, 5, 5, 5, 5, 5, 5, 5, 5, 5, 6, 6, 6, 6, 6, 6, 6, 6, 6, 6, 6, 6, 6, 6, 6, 6, 6, 6, 6, 6, 6, 6, 6, 6, 6, 6, 6, 6, 6, 6, 6, 6, 7, 7, 7, 7, 7, 7, 7, 7, 7, 7, 7, 7, 7, 7, 7, 7, 7, 7, 7, 7, 7, 7, 7, 7, 7, 7, 7, 7, 7, 7, 7, 7, 7, 7, 7, 7, 7, 7, 7, 7, 7, 7, 7, 7, 7, 7, 7, 7, 7, 7, 7, 7, 7, 7, 7, 7, 7, 7, 7, 7, 7, 7, 7, 7, 8, 8, 8, 8, 8, 8, 8, 8, 8, 8, 8, 8, 8, 8, 8, 8, 8, 8, 8, 8, 8, 8, 8, 8, 8, 8, 8, 8, 8, 8, 8, 8, 8, 8, 8, 8, 8, 8, 8, 8, 8, 8, 8, 8, 8, 8, 8, 8, 8, 8, 8, 8, 8, 8, 8, 8, 8, 8, 8, 8, 8, 8, 8, 8, 8, 8, 8, 8, 8, 8, 8, 8, 8, 8, 8, 8, 8, 8, 8, 8, 8, 8, 8, 8, 8, 8, 8, 8, 8, 8, 8, 8, 8, 8, 8, 8, 8, 8, 8, 8, 8, 8, 8, 8, 8, 8, 8, 8, 8, 8, 8, 8, 8, 8, 8, 8, 8, 8, 8, 8, 8, 8, 8, 8, 8, 8, 8, 8]⟩
theorem lenTab_at {x : Nat} (h : x < 256) : (lenTab[x]?).map UInt8.toNat = some (blen x) :=
  (of_decide_eq_true (by kernel_rfl) : ∀ i : Fin 256, (lenTab[i.val]?).map UInt8.toNat = some (blen i.val)) ⟨x, h⟩
section
variable {C : Cfg} {ρ : Env} {pre : List Nat} {hx : HX} {L : Stack} {m m' : Mem} {ty : Nat} {ps : List (Nat × SV)} {t : Tree}
theorem node_len8 {st : Nat} {xi : Operand} {k : IntKind} {r : SV} (x : Nat) (hx2 : x < 256) (ht : C.P.underlying st = some .string) (hxi : ∀ ids, envOf ρ ids ps xi = .int k (x : Int)) (hr : ∀ ids, r.den (ρ.add ⟨[(blen x : Int)], [], [], [], []⟩) ids = .int .u8 (blen x : Int)) (hhp : m'.hp = m.hp) (hfit : hpFits m.c m.hp.length m.hp = true) (hc : (ρ.add ⟨[(blen x : Int)], [], [], [], []⟩).cnt = m'.c)
    (h : t.holds C (ρ.add ⟨[(blen x : Int)], [], [], [], []⟩) pre hx L) : (Tree.gen (.index st (.const (.string lenTab)) xi) ty ps m (some r) m' t).holds C ρ pre hx L := by
  refine node_gpure (V := .int .u8 (blen x : Int)) _ (fun ids w hp hf => ?_) hr hhp hfit hc oneNil h
  have hb := lenTab_at hx2
  obtain ⟨b, hb1, hb2⟩ := Option.map_eq_some_iff.1 hb
  have e : (Instr.index st (.string lenTab) (.int k (x : Int))).run C.P w = .ok (.int .u8 (blen x : Int)) w := by
    simp only [Instr.index, asIntOf, Sem.run_bind, Sem.run_pure, Result.andThen_ok, run_underlying ht]
    rw [if_pos (by omega), Int.toNat_natCast, hb1, ← hb2]
    rfl
  have e2 : envOf ρ ids ps (.const (.string lenTab)) = .string lenTab := rfl
  simp only [execOp, hxi, e2, Sem.run_bind, e, Result.andThen_ok, Sem.run_pure]
end
theorem shr_u64 {u k : Nat} (hk : k ≤ 64) : ifn .shr .u64 (u : Int) (k : Int) = ((u / 2 ^ k : Nat) : Int) := by
  show Int.fdiv (u : Int) (2 ^ min (k : Int).toNat 64) = _
  rw [Int.toNat_natCast, Nat.min_eq_left hk]
  show Int.fdiv (u : Int) ((2 : Nat) ^ k : Int) = _
  rw [← Int.natCast_pow, Int.fdiv_eq_ediv_of_nonneg _ (Int.natCast_nonneg _)]
  exact (Int.natCast_ediv u (2 ^ k)).symm
theorem blen_shift {u k : Nat} (h : 2 ^ k ≤ u) : blen u = k + blen (u / 2 ^ k) := by
  have hp : 0 < 2 ^ k := Nat.pow_pos (by decide)
  have h1 : 0 < u / 2 ^ k := Nat.div_pos h hp
  have hu : u ≠ 0 := by omega
  unfold blen
  rw [if_neg hu, if_neg (by omega)]
  have h2 := (Nat.log2_eq_iff (n := u / 2 ^ k) (by omega)).1 rfl
  have h3 : u.log2 = k + (u / 2 ^ k).log2 := by
    refine (Nat.log2_eq_iff hu).2 ⟨?_, ?_⟩
    · rw [Nat.pow_add, Nat.mul_comm]
      exact (Nat.le_div_iff_mul_le hp).1 h2.1
    · rw [show k + (u / 2 ^ k).log2 + 1 = (u / 2 ^ k).log2 + 1 + k by omega, Nat.pow_add]
      exact (Nat.div_lt_iff_lt_mul hp).1 h2.2
  omega
theorem u8_small {x : Nat} (h : x < 256) : IntKind.u8.wrap (x : Int) = (x : Int) := IntWalk.u8_in _ (by omega)
set_option maxRecDepth 100000 in
theorem len64_any {u : Nat} (hu : u < 2 ^ 64) (w : World) : Calls Try.prog 112 #[.int .u64 (u : Int)] w (PureAt w (.int .i64 (blen u : Int))) := by
  refine calls_at (tab_ok _) Try.func112 rfl tLen64 (ρ := ⟨[(u : Int)], [], [], [], []⟩) (ids := []) rfl (Facts.initP rfl oneNil) ?_
  have cgt : ∀ (a b : Nat), b ≤ a → decide ((a : Int) ≥ (b : Int)) = true := fun a b h => decide_eq_true (by omega)
  have clt : ∀ (a b : Nat), a < b → decide ((a : Int) ≥ (b : Int)) = false := fun a b h => decide_eq_false (by omega)
  have e32 : ifn .shr .u64 (u : Int) 32 = ((u / 2 ^ 32 : Nat) : Int) := shr_u64 (k := 32) (by decide)
  have e16 : ∀ v : Nat, ifn .shr .u64 (v : Int) 16 = ((v / 2 ^ 16 : Nat) : Int) := fun v => shr_u64 (k := 16) (by decide)
  have e8 : ∀ v : Nat, ifn .shr .u64 (v : Int) 8 = ((v / 2 ^ 8 : Nat) : Int) := fun v => shr_u64 (k := 8) (by decide)
  have fin : ∀ (k b : Nat), k ≤ 64 → b ≤ 64 → blen u = k + b → ∀ (X : Int), X = ifn .add .i64 (k : Int) (IntKind.i64.wrap (b : Int)) → Value.int .i64 X = .int .i64 (blen u : Int) := fun k b h1 h2 h3 X hX => by
    rw [hX, h3, wrap_i64 (by omega)]
    show Value.int .i64 (IntKind.i64.wrap ((k : Int) + (b : Int))) = _
    rw [wrap_i64 (by omega)]; congr 1
  have b8 : ∀ {x : Nat}, x < 256 → blen x ≤ 64 := fun h => Nat.le_trans (blen_lt (k := 8) (by simpa using h)) (by decide)
  by_cases h32 : 4294967296 ≤ u
  · refine br_t (show decide ((u : Int) ≥ 4294967296) = true by exact cgt _ 4294967296 h32) ?_
    by_cases h16 : 65536 ≤ u / 2 ^ 32
    · refine br_t (show decide (ifn .shr .u64 ((u : Int)) 32 ≥ 65536) = true by rw [e32]; exact cgt _ 65536 h16) ?_
      by_cases h8 : 256 ≤ u / 2 ^ 32 / 2 ^ 16
      · refine br_t (show decide (ifn .shr .u64 (ifn .shr .u64 ((u : Int)) 32) 16 ≥ 256) = true by rw [e32, e16]; exact cgt _ 256 h8) ?_
        refine node_len8 (k := .u8) (u / 2 ^ 32 / 2 ^ 16 / 2 ^ 8) (by omega) Try.underlying9 (fun _ => ?_) (fun _ => rfl) rfl rfl rfl ?_
        · show Value.int .u8 (IntKind.u8.wrap (ifn .shr .u64 (ifn .shr .u64 (ifn .shr .u64 ((u : Int)) 32) 16) 8)) = _
          rw [e32, e16, e8, u8_small (by omega)]
        exact pure_done fun _ => fin 56 (blen (u / 2 ^ 32 / 2 ^ 16 / 2 ^ 8)) (by decide) (b8 (by omega)) (by have q0 := blen_shift (k := 32) (u := u) (by omega); have q1 := blen_shift (k := 16) (u := u / 2 ^ 32) (by omega); have q2 := blen_shift (k := 8) (u := u / 2 ^ 32 / 2 ^ 16) (by omega); omega) _ rfl
      · refine br_f (show decide (ifn .shr .u64 (ifn .shr .u64 ((u : Int)) 32) 16 ≥ 256) = false by rw [e32, e16]; exact clt _ 256 (by omega)) ?_
        refine node_len8 (k := .u8) (u / 2 ^ 32 / 2 ^ 16) (by omega) Try.underlying9 (fun _ => ?_) (fun _ => rfl) rfl rfl rfl ?_
        · show Value.int .u8 (IntKind.u8.wrap (ifn .shr .u64 (ifn .shr .u64 ((u : Int)) 32) 16)) = _
          rw [e32, e16, u8_small (by omega)]
        exact pure_done fun _ => fin 48 (blen (u / 2 ^ 32 / 2 ^ 16)) (by decide) (b8 (by omega)) (by have q0 := blen_shift (k := 32) (u := u) (by omega); have q1 := blen_shift (k := 16) (u := u / 2 ^ 32) (by omega); omega) _ rfl
    · refine br_f (show decide (ifn .shr .u64 ((u : Int)) 32 ≥ 65536) = false by rw [e32]; exact clt _ 65536 (by omega)) ?_
      by_cases h8 : 256 ≤ u / 2 ^ 32
      · refine br_t (show decide (ifn .shr .u64 ((u : Int)) 32 ≥ 256) = true by rw [e32]; exact cgt _ 256 h8) ?_
        refine node_len8 (k := .u8) (u / 2 ^ 32 / 2 ^ 8) (by omega) Try.underlying9 (fun _ => ?_) (fun _ => rfl) rfl rfl rfl ?_
        · show Value.int .u8 (IntKind.u8.wrap (ifn .shr .u64 (ifn .shr .u64 ((u : Int)) 32) 8)) = _
          rw [e32, e8, u8_small (by omega)]
        exact pure_done fun _ => fin 40 (blen (u / 2 ^ 32 / 2 ^ 8)) (by decide) (b8 (by omega)) (by have q0 := blen_shift (k := 32) (u := u) (by omega); have q1 := blen_shift (k := 8) (u := u / 2 ^ 32) (by omega); omega) _ rfl
      · refine br_f (show decide (ifn .shr .u64 ((u : Int)) 32 ≥ 256) = false by rw [e32]; exact clt _ 256 (by omega)) ?_
        refine node_len8 (k := .u8) (u / 2 ^ 32) (by omega) Try.underlying9 (fun _ => ?_) (fun _ => rfl) rfl rfl rfl ?_
        · show Value.int .u8 (IntKind.u8.wrap (ifn .shr .u64 ((u : Int)) 32)) = _
          rw [e32, u8_small (by omega)]
        exact pure_done fun _ => fin 32 (blen (u / 2 ^ 32)) (by decide) (b8 (by omega)) (by have q0 := blen_shift (k := 32) (u := u) (by omega); omega) _ rfl
  · refine br_f (show decide ((u : Int) ≥ 4294967296) = false by exact clt _ 4294967296 (by omega)) ?_
    by_cases h16 : 65536 ≤ u
    · refine br_t (show decide ((u : Int) ≥ 65536) = true by exact cgt _ 65536 h16) ?_
      by_cases h8 : 256 ≤ u / 2 ^ 16
      · refine br_t (show decide (ifn .shr .u64 ((u : Int)) 16 ≥ 256) = true by rw [e16]; exact cgt _ 256 h8) ?_
        refine node_len8 (k := .u8) (u / 2 ^ 16 / 2 ^ 8) (by omega) Try.underlying9 (fun _ => ?_) (fun _ => rfl) rfl rfl rfl ?_
        · show Value.int .u8 (IntKind.u8.wrap (ifn .shr .u64 (ifn .shr .u64 ((u : Int)) 16) 8)) = _
          rw [e16, e8, u8_small (by omega)]
        exact pure_done fun _ => fin 24 (blen (u / 2 ^ 16 / 2 ^ 8)) (by decide) (b8 (by omega)) (by have q0 := blen_shift (k := 16) (u := u) (by omega); have q1 := blen_shift (k := 8) (u := u / 2 ^ 16) (by omega); omega) _ rfl
      · refine br_f (show decide (ifn .shr .u64 ((u : Int)) 16 ≥ 256) = false by rw [e16]; exact clt _ 256 (by omega)) ?_
        refine node_len8 (k := .u8) (u / 2 ^ 16) (by omega) Try.underlying9 (fun _ => ?_) (fun _ => rfl) rfl rfl rfl ?_
        · show Value.int .u8 (IntKind.u8.wrap (ifn .shr .u64 ((u : Int)) 16)) = _
          rw [e16, u8_small (by omega)]
        exact pure_done fun _ => fin 16 (blen (u / 2 ^ 16)) (by decide) (b8 (by omega)) (by have q0 := blen_shift (k := 16) (u := u) (by omega); omega) _ rfl
    · refine br_f (show decide ((u : Int) ≥ 65536) = false by exact clt _ 65536 (by omega)) ?_
      by_cases h8 : 256 ≤ u
      · refine br_t (show decide ((u : Int) ≥ 256) = true by exact cgt _ 256 h8) ?_
        refine node_len8 (k := .u8) (u / 2 ^ 8) (by omega) Try.underlying9 (fun _ => ?_) (fun _ => rfl) rfl rfl rfl ?_
        · show Value.int .u8 (IntKind.u8.wrap (ifn .shr .u64 ((u : Int)) 8)) = _
          rw [e8, u8_small (by omega)]
        exact pure_done fun _ => fin 8 (blen (u / 2 ^ 8)) (by decide) (b8 (by omega)) (by have q0 := blen_shift (k := 8) (u := u) (by omega); omega) _ rfl
      · refine br_f (show decide ((u : Int) ≥ 256) = false by exact clt _ 256 (by omega)) ?_
        refine node_len8 (k := .u8) (u) (by omega) Try.underlying9 (fun _ => ?_) (fun _ => rfl) rfl rfl rfl ?_
        · show Value.int .u8 (IntKind.u8.wrap ((u : Int))) = _
          rw [u8_small (by omega)]
        exact pure_done fun _ => fin 0 (blen (u)) (by decide) (b8 (by omega)) (by  omega) _ rfl
theorem size_any {u : Nat} (hu : u < 2 ^ 64) (w : World) : Calls Try.prog 103 #[.int .u64 (u : Int)] w (PureAt w (.int .i64 ((nlen u + 1 : Nat) : Int))) := by
  refine calls_at (tab_ok _) Try.func103 rfl tSize (ρ := ⟨[(u : Int)], [], [], [], []⟩) (ids := []) rfl (Facts.initP rfl oneNil) ?_
  refine node_val ⟨[(blen u : Int)], [], [], [], []⟩ (fun w => len64_any hu w) (fun _ => rfl) (fun _ => rfl) rfl rfl rfl oneNil ?_
  have h64 := blen_lt hu
  refine pure_done fun _ => ?_
  show Value.int .i64 (IntKind.i64.wrap (1 + IntKind.i64.wrap (Int.tdiv (IntKind.i64.wrap ((blen u : Int) + 7)) 8))) = _
  have e : Int.tdiv ((blen u : Int) + 7) 8 = ((nlen u : Nat) : Int) := by
    unfold nlen
    rw [show (blen u : Int) + 7 = ((blen u + 7 : Nat) : Int) by omega]
    rfl
  have h8 : nlen u ≤ 8 := nlen_8 hu
  rw [wrap_i64 (x := (blen u : Int) + 7) (by omega), e, wrap_i64 (x := (nlen u : Int)) (by omega), wrap_i64 (by omega)]
  congr 1; omega
theorem fold_any {i : Int} (h : I64 i) (w : World) : Calls Try.prog 88 #[.int .i64 i] w (PureAt w (.int .u64 (foldN i : Int))) := by
  refine calls_at (tab_ok _) Try.func88 rfl tFold (ρ := ⟨[i], [], [], [], []⟩) (ids := []) rfl (Facts.initP rfl oneNil) ?_
  refine pure_done fun _ => ?_
  show Value.int .u64 (ifn .xor .u64 (ifn .shl .u64 (IntKind.u64.wrap i) 1) (IntKind.u64.wrap (ifn .shr .i64 i 63))) = _
  congr 1
  have h2 := h
  unfold I64 at h2
  have wr : ∀ x : Int, IntKind.u64.wrap x = x % 18446744073709551616 := fun x => rfl
  have hs : ifn .shr .i64 i 63 = if 0 ≤ i then 0 else -1 := by
    show Int.fdiv i (2 ^ 63) = _
    have : Int.fdiv i (2 ^ 63) = i / 2 ^ 63 := Int.fdiv_eq_ediv_of_nonneg _ (by decide)
    rw [this]
    split <;> omega
  rw [hs]
  have hshl : ifn .shl .u64 (IntKind.u64.wrap i) 1 = (2 * i) % 18446744073709551616 := by
    show IntKind.u64.wrap (IntKind.u64.wrap i * 2 ^ 1) = _
    rw [wr, wr]; omega
  rw [hshl]
  unfold foldN
  by_cases h0 : 0 ≤ i
  · rw [if_pos h0, if_pos h0]
    show IntKind.u64.wrap (BitVec.ofInt 64 ((2 * i) % 18446744073709551616) ^^^ BitVec.ofInt 64 (IntKind.u64.wrap 0)).toNat = _
    have e : BitVec.ofInt 64 (IntKind.u64.wrap 0) = 0#64 := by decide
    rw [e, BitVec.xor_zero, BitVec.toNat_ofInt, wr]; omega
  · rw [if_neg h0, if_neg h0]
    show IntKind.u64.wrap (BitVec.ofInt 64 ((2 * i) % 18446744073709551616) ^^^ BitVec.ofInt 64 (IntKind.u64.wrap (-1))).toNat = _
    have e : BitVec.ofInt 64 (IntKind.u64.wrap (-1)) = BitVec.allOnes 64 := by decide
    rw [e, BitVec.xor_allOnes, BitVec.toNat_not, BitVec.toNat_ofInt, wr]; omega
theorem unfold_any {u : Nat} (hu : u < 2 ^ 64) (w : World) : Calls Try.prog 93 #[.int .u64 (u : Int)] w (PureAt w (.int .i64 (unfoldN u))) := by
  refine calls_at (tab_ok _) Try.func93 rfl tUnfold (ρ := ⟨[(u : Int)], [], [], [], []⟩) (ids := []) rfl (Facts.initP rfl oneNil) ?_
  refine pure_done fun _ => ?_
  show Value.int .i64 (ifn .xor .i64 (IntKind.i64.wrap (ifn .shr .u64 (u : Int) 1)) (ifn .sub .i64 0 (IntKind.i64.wrap (ifn .and .u64 (u : Int) 1)))) = _
  congr 1
  have e1 : ifn .shr .u64 (u : Int) 1 = ((u / 2 : Nat) : Int) := shr_u64 (k := 1) (by decide)
  have e2 : ifn .and .u64 (u : Int) 1 = ((u % 2 : Nat) : Int) := by
    show IntKind.u64.wrap ((BitVec.ofInt 64 (u : Int) &&& BitVec.ofInt 64 1).toNat : Int) = _
    have e3 : (BitVec.ofInt 64 (u : Int) &&& BitVec.ofInt 64 1).toNat = u % 2 := by
      rw [BitVec.toNat_and]
      have h2 : (BitVec.ofInt 64 (u : Int)).toNat = u := by simp only [BitVec.toNat_ofInt]; omega
      have h3 : (BitVec.ofInt 64 1).toNat = 2 ^ 1 - 1 := by decide
      rw [h2, h3]
      exact Nat.and_two_pow_sub_one_eq_mod u 1
    rw [e3]
    exact IntWalk.u64_in _ (by omega)
  rw [e1, e2, wrap_i64 (x := ((u / 2 : Nat) : Int)) (by omega), wrap_i64 (x := ((u % 2 : Nat) : Int)) (by omega)]
  have wr : ∀ x : Int, -9223372036854775808 ≤ x ∧ x ≤ 9223372036854775807 → IntKind.i64.wrap x = x := fun x h => wrap_i64 h
  unfold unfoldN
  rcases (by omega : u % 2 = 0 ∨ u % 2 = 1) with h | h
  · rw [h, if_pos rfl]
    have e : ifn .sub .i64 0 ((0 : Nat) : Int) = 0 := by decide
    rw [e]
    show IntKind.i64.wrap ((BitVec.ofInt 64 ((u / 2 : Nat) : Int) ^^^ BitVec.ofInt 64 0).toNat : Int) = _
    have e2 : BitVec.ofInt 64 0 = 0#64 := by decide
    rw [e2, BitVec.xor_zero, BitVec.toNat_ofInt]
    rw [wr _ (by omega)]; omega
  · rw [h, if_neg (by decide)]
    have e : ifn .sub .i64 0 ((1 : Nat) : Int) = -1 := by decide
    rw [e]
    show IntKind.i64.wrap ((BitVec.ofInt 64 ((u / 2 : Nat) : Int) ^^^ BitVec.ofInt 64 (-1)).toNat : Int) = _
    have e2 : BitVec.ofInt 64 (-1) = BitVec.allOnes 64 := by decide
    rw [e2, BitVec.xor_allOnes, BitVec.toNat_not, BitVec.toNat_ofInt]
    have e3 : (((2 : Nat) ^ 64 - 1 - ((((u / 2 : Nat) : Int) % ((2 ^ 64 : Nat) : Int)).toNat) : Nat) : Int) = 18446744073709551615 - ((u / 2 : Nat) : Int) := by omega
    rw [e3]
    have : ∀ y : Int, 9223372036854775808 ≤ y ∧ y ≤ 18446744073709551615 → IntKind.i64.wrap y = y - 18446744073709551616 := fun y hy => by
      have hm : y % (2 ^ IntKind.i64.bits : Int) = y := Int.emod_eq_of_lt (by omega) (show y < 18446744073709551616 by omega)
      unfold IntKind.wrap
      simp only [hm]
      rw [if_pos (by simp only [IntKind.signed, Bool.true_and, decide_eq_true_eq]; exact hy.1)]
      rfl
    rw [this _ (by omega)]; omega
theorem rfold_any {i : Int} (h : I64 i) (w : World) : Calls Try.prog 90 #[.int .i64 i] w (PureAt w (.int .u64 (foldN i : Int))) := by
  refine calls_at (tab_ok _) Try.func90 rfl tRFold (ρ := ⟨[i], [], [], [], []⟩) (ids := []) rfl (Facts.initP rfl oneNil) ?_
  have h2 := h
  unfold I64 at h2
  have wr : ∀ x : Int, IntKind.u64.wrap x = x % 18446744073709551616 := fun x => rfl
  unfold foldN
  by_cases h0 : 0 ≤ i
  · refine br_t (show decide (i ≥ 0) = true from decide_eq_true h0) (pure_done fun _ => ?_)
    show Value.int .u64 (IntKind.u64.wrap (2 * IntKind.u64.wrap i)) = _
    rw [if_pos h0, wr, wr]; congr 1; omega
  · refine br_f (show decide (i ≥ 0) = false from decide_eq_false h0) (pure_done fun _ => ?_)
    show Value.int .u64 (IntKind.u64.wrap (IntKind.u64.wrap (2 * IntKind.u64.wrap (IntKind.i64.wrap (0 - IntKind.i64.wrap (i + 1)))) + 1)) = _
    rw [if_neg h0, wrap_i64 (x := i + 1) (by omega), wrap_i64 (by omega), wr, wr, wr]; congr 1; omega
theorem runfold_any {u : Nat} (hu : u < 2 ^ 64) (w : World) : Calls Try.prog 92 #[.int .u64 (u : Int)] w (PureAt w (.int .i64 (unfoldN u))) := by
  refine calls_at (tab_ok _) Try.func92 rfl tRUnfold (ρ := ⟨[(u : Int)], [], [], [], []⟩) (ids := []) rfl (Facts.initP rfl oneNil) ?_
  have e1 : Int.tmod (u : Int) 2 = ((u % 2 : Nat) : Int) := rfl
  have e2 : IntKind.u64.wrap (Int.tdiv (u : Int) 2) = ((u / 2 : Nat) : Int) := by
    show IntKind.u64.wrap ((u / 2 : Nat) : Int) = _
    exact IntWalk.u64_in _ (by omega)
  unfold unfoldN
  by_cases h : u % 2 = 0
  · refine br_t (show (Int.tmod (u : Int) 2 == 0) = true by rw [e1, h]; rfl) (pure_done fun _ => ?_)
    show Value.int .i64 (IntKind.i64.wrap (IntKind.u64.wrap (Int.tdiv (u : Int) 2))) = _
    rw [e2, if_pos h, wrap_i64 (by omega)]
  · refine br_f (show (Int.tmod (u : Int) 2 == 0) = false by rw [e1, show u % 2 = 1 by omega]; rfl) (pure_done fun _ => ?_)
    show Value.int .i64 (IntKind.i64.wrap (IntKind.i64.wrap (0 - IntKind.i64.wrap (IntKind.u64.wrap (Int.tdiv (u : Int) 2))) - 1)) = _
    rw [e2, if_neg h, wrap_i64 (x := ((u / 2 : Nat) : Int)) (by omega), wrap_i64 (x := 0 - ((u / 2 : Nat) : Int)) (by omega), wrap_i64 (by omega)]
    congr 1; omega
end Go.Proofs.Ytfjiolgdcphjhaa

namespace Go.Proofs.Ytfjiolgdcphjhaa
open Go.ChangeShapes Go.WideShapes Go.ChangeAt Go.RowKit Go.Syn Go.Eng
set_option linter.unusedVariables false
set_option maxRecDepth 100000
set_option linter.unusedSimpArgs false
def frow (a : Option Addr) (cap : Nat) (bs : List Int) : HX := HX.rw 1 5 a bs.length cap (bcells bs)
theorem frow_none (hx : HX) : hx.and (frow none 0 []) = hx := HX.ext (by
    funext k
    exact propext ⟨fun h => h.elim id fun h => absurd rfl h.1, .inl⟩) (by
    funext w
    exact propext ⟨fun h => h.1, fun h => ⟨h, HX.rw_nil _ _ _ _⟩⟩)
theorem frow_snoc (a : Option Addr) (cap : Nat) (bs : List Int) (d : Int) : HX.rw 1 5 a (bs.length + 1) cap (bcells bs ++ [.int .u8 d]) = frow a cap (bs ++ [d]) := by
  unfold frow bcells
  rw [List.length_append, List.map_append]; rfl
theorem frow_cells {a : Option Addr} {cap : Nat} {bs : List Int} {w : World} (h : (frow a cap bs).X w) : Cells w a (bcells bs) := rw_cells h
theorem frow_lt {a : Option Addr} {cap : Nat} {bs : List Int} {w : World} (h : (frow a cap bs).X w) {k : Nat} (h1 : cap ≠ 0) (h2 : abk a = some k) : k < w.heap.size := by
  obtain ⟨g, _, rfl, q, _⟩ := rw_open h h1
  cases h2; exact q
theorem frow_le {a : Option Addr} {cap : Nat} {bs : List Int} {w : World} (h : (frow a cap bs).X w) : bs.length ≤ cap := (rw_le h).1
theorem blk_sliA (a : Option Addr) (l cap sz : Nat) : blk (sliA a l cap sz) = blk a := by
  unfold sliA
  split
  · rfl
  · cases a with
    | none => rfl
    | some ad => simp only [Option.map_some]; show (ad.add (l * sz)).block = ad.block; unfold Addr.add; split <;> rfl
theorem bcells_sub (bs : List Int) (l k : Nat) : ((bcells bs).drop l).take k = bcells ((bs.drop l).take k) := by unfold bcells; rw [← List.map_drop, ← List.map_take]
def NewO (w : World) (V : Value → Value) (bs : List Int) (e : Ending) (w' : World) : Prop := ∃ a' c', e = .returned (V (.slice a' bs.length c')) ∧ (frow a' c' bs).X w' ∧ (∀ k, c' ≠ 0 → abk a' = some k → w.heap.size ≤ k) ∧ Below w.heap.size w w'
theorem row_some {a : Option Addr} {cap : Nat} {bs : List Int} {w : World} (h : (frow a cap bs).X w) (hne : bs ≠ []) : a.isSome = true := by
  have hc : cap ≠ 0 := fun q => by
    rcases h with ⟨_, _, h3⟩ | ⟨h3, _⟩
    · exact hne (bcells_nil.1 h3)
    · exact h3 q
  obtain ⟨g, _, rfl, _⟩ := rw_open h hc
  rfl
section
variable {C : Cfg} {ρ : Env} {pre : List Nat} {hx rest : HX} {L : Stack} {m m' : Mem} {args : List SV} {r : SV} {t : Tree} {a : Option Addr} {cap : Nat} {g : List Int}
theorem node_newo {f : Nat} {V : Value → Value} {bs : List Int} (AS : Array Value) (vs : Option Addr → Nat → Vals) (hargs : ∀ ids, (args.map (SV.den ρ ids)).toArray = AS) (hcall : ∀ ids w, pre <+: ids → Facts C m ρ ids hx w → Calls C.P f AS w (NewO w V bs))
    (hr : ∀ a' c' ids, r.den (ρ.add (vs a' c')) ids = V (.slice a' bs.length c')) (hhp : m'.hp = m.hp) (hfit : hpFits m.c m.hp.length m.hp = true) (hc : ∀ a' c', (ρ.add (vs a' c')).cnt = m'.c) (h1 : ∀ a' c' v, v ∈ (vs a' c').v → v.oneCell' = true)
    (h : ∀ a' c', (bs ≠ [] → a'.isSome = true) → (∀ k, c' ≠ 0 → abk a' = some k → C.W.heap.size ≤ k ∧ ¬ hx.F k) → t.holds C (ρ.add (vs a' c')) pre (hx.and (frow a' c' bs)) L) : (Tree.call f args m r m' t).holds C ρ pre hx L := by
  intro ids w hp hf
  rw [hargs]
  refine (hcall ids w hp hf).mono ?_
  rintro e w' ⟨a', c', rfl, hX, hge, hbel⟩
  have hg : w.grownBy w' none := ⟨hbel.os, hbel.tape, hbel.output, hbel.size, fun k hk _ => hbel.block k hk⟩
  refine ⟨_, ids, _, by rw [← hr a' c' ids], List.prefix_refl _, hf.turn (hx' := hx.and (frow a' c' bs)) hg (fun b e => by cases e) ⟨hx.loc w w' hf.x fun k hk => hbel.block k (hf.sep k hk).1, hX⟩ (fun k hk => ?_) hhp hfit (hc _ _) (h1 _ _), holds_pre t hp (h a' c' (row_some hX) (fun k h2 h3 => ⟨Nat.le_trans hf.chg.size (hge k h2 h3), fun q => by have := (hf.sep _ q).1; have := hge k h2 h3; omega⟩))⟩
  rcases hk with hk | hk
  · exact .inl hk
  · refine .inr ⟨hge k hk.1 hk.2, ?_⟩
    obtain ⟨g, _, e, q, _⟩ := rw_open hX hk.1
    have h3 := hk.2
    rw [e] at h3; cases h3; exact q
end
end Go.Proofs.Ytfjiolgdcphjhaa

namespace Go.Proofs.Ytfjiolgdcphjhaa
open Go.ChangeShapes Go.WideShapes Go.ChangeAt Go.RowKit Go.Syn Go.Eng
set_option linter.unusedVariables false
set_option maxRecDepth 100000
set_option linter.unusedSimpArgs false
structure WAt (w : World) (nb : Nat) (a : Option Addr) (cap : Nat) (bs : List Int) : Prop where
  blk : Blk w nb [.slice a bs.length cap] 151
  mem : (frow a cap bs).X w
  sep : ∀ k, (frow a cap bs).F k → k < w.heap.size ∧ k ≠ nb
def WR (w : World) (nb : Nat) (a : Option Addr) (cap : Nat) (bs' : List Int) (V : Value) (e : Ending) (w' : World) : Prop :=
  ∃ a' cap', e = .returned V ∧ Blk w' nb [.slice a' bs'.length cap'] 151 ∧ (frow a' cap' bs').X w' ∧ Chg (fun x => x = nb ∨ (cap ≠ 0 ∧ abk a = some x)) w w' ∧ (∀ k, cap' ≠ 0 → abk a' = some k → (cap ≠ 0 ∧ abk a = some k) ∨ w.heap.size ≤ k)
theorem digs_step {n u j : Nat} (h : j < n) : (digs n u).take (j + 1) = (digs n u).take j ++ [((u / 256 ^ (n - 1 - j) % 256 : Nat) : Int)] := by
  rw [List.take_add_one, digs_get n u j h]; rfl
def WnI (W : World) (a : Option Addr) (cap : Nat) (bs : List Int) (u : Nat) (vs : Vals) (hx : HX) : Prop := ∃ (j : Nat) (a' : Option Addr) (cap' : Nat), j ≤ nlen u ∧ (∀ k, cap' ≠ 0 → abk a' = some k → (cap ≠ 0 ∧ abk a = some k) ∨ W.heap.size ≤ k) ∧
  vs = ⟨[(nlen u : Int) - 1 - j], [], [], [(bs ++ (nlen u : Int) :: (digs (nlen u) u).take j).length, cap'], [a']⟩ ∧ hx = HX.nil.and (frow a' cap' (bs ++ (nlen u : Int) :: (digs (nlen u) u).take j))
set_option maxRecDepth 100000 in
theorem wnum_any (nb : Nat) (a : Option Addr) (cap : Nat) (bs : List Int) (u : Nat) (hu : u < 2 ^ 64) (w : World) (H : WAt w nb a cap bs) (hl : bs.length + 9 ≤ 140737488355328) : Calls Try.prog 87 #[.pointer (some ⟨nb, 0, none⟩), .int .u64 (u : Int)] w (WR w nb a cap (bs ++ numB u) (.pointer (some ⟨nb, 0, none⟩))) := by
  have h8 := nlen_8 hu
  refine calls_at (tab_ok _) Try.func87 rfl tWNum (ρ := ⟨[(u : Int)], [], [], [bs.length, cap], [a]⟩) (ids := [nb]) (hx := HX.nil.and (frow a cap bs)) (M := fun x => x = nb ∨ (cap ≠ 0 ∧ abk a = some x)) rfl (Facts.initx rfl oneNil H.blk rfl (.inl rfl) ⟨trivial, H.mem⟩ (fun k hk => hk.elim (fun q => q.elim) (H.sep k))) ?_
  refine node_val ⟨[((nlen u + 1 : Nat) : Int)], [], [], [], []⟩ (fun w => size_any hu w) (fun _ => rfl) (fun _ => rfl) rfl rfl rfl oneNil ?_
  have hn1 : IntKind.i64.wrap (((nlen u + 1 : Nat) : Int) - 1) = (nlen u : Int) := by rw [wrap_i64 (by omega)]; omega
  refine node_pushs (sz := 1) (vs := [.int .u8 (nlen u : Int)]) rfl Try.underlying65 info_byte rfl (by decide) a bs.length cap (bcells bs) 1 (fun _ => rfl) (fun _ => rfl) rfl (fun _ => ?_) rfl (by simp [Value.oneCell']) (fun k _ _ q => q.elim) (fun k h1 h2 => .inr (.inr ⟨h1, h2⟩)) (by unfold maxLen; omega) (by omega) (fun _ _ _ => rfl) rfl rfl (fun _ _ => rfl) ?_
  · show [Value.int .u8 (IntKind.u8.wrap (IntKind.i64.wrap (((nlen u + 1 : Nat) : Int) - 1)))] = _
    rw [hn1, u8_small (by omega)]
  intro a1 c1 hc1 hf1 hor1
  have hfr : ∀ k, c1 ≠ 0 → abk a1 = some k → (cap ≠ 0 ∧ abk a = some k) ∨ w.heap.size ≤ k := fun k h1 h2 => by
    rcases hor1 with ⟨q1, q2⟩ | ⟨g, q1, q2, _⟩
    · exact .inl ⟨q1, q2 ▸ h2⟩
    · rw [q1] at h2; cases h2; exact .inr q2
  rw [frow_snoc]
  have hlen : ∀ j, j ≤ nlen u → (bs ++ (nlen u : Int) :: (digs (nlen u) u).take j).length = bs.length + 1 + j := fun j hj => by
    rw [List.length_append, List.length_cons, List.length_take, digs_len]; omega
  refine loop_i (WnI w a cap bs u) (fun vs => (vs.i.headD 0 + 1).toNat) (fun ids w2 hp hf => ⟨_, ⟨hf.x, hf.sep⟩, 0, a1, c1, Nat.zero_le _, hfr, ?_, by rw [List.take_zero]⟩) ?_
  · rw [hlen 0 (Nat.zero_le _)]
    show (⟨[IntKind.i64.wrap (IntKind.i64.wrap (((nlen u + 1 : Nat) : Int) - 1) - 1)], [], [], [bs.length + 1, c1], [a1]⟩ : Vals) = _
    rw [hn1, wrap_i64 (by omega)]
    simp
  rintro vs hx' hcnt ⟨j, a2, c2, hj, hfr2, rfl, rfl⟩
  by_cases hlt : j < nlen u
  · refine br_t (show decide ((nlen u : Int) - 1 - j ≥ 0) = true from decide_eq_true (by omega)) ?_
    have e8 : ifn .mul .i64 8 ((nlen u : Int) - 1 - j) = ((8 * (nlen u - 1 - j) : Nat) : Int) := by
      show IntKind.i64.wrap (8 * ((nlen u : Int) - 1 - j)) = _
      rw [wrap_i64 (by omega)]; omega
    have ebyte : IntKind.u8.wrap (ifn .shr .u64 (u : Int) (ifn .mul .i64 8 ((nlen u : Int) - 1 - j))) = ((u / 256 ^ (nlen u - 1 - j) % 256 : Nat) : Int) := by
      rw [e8, shr_u64 (by omega), show (2 : Nat) ^ (8 * (nlen u - 1 - j)) = 256 ^ (nlen u - 1 - j) by rw [Nat.pow_mul]]
      generalize u / 256 ^ (nlen u - 1 - j) = q
      show (q : Int) % 256 = _
      omega
    refine need_i (show (0 : Int) ≤ ifn .mul .i64 8 ((nlen u : Int) - 1 - j) by rw [e8]; omega) ?_
    have way : ∀ {ty : Nat} {ps : List (Nat × SV)} {m m' : Mem} {t : Tree} {r : SV} {L : Stack} (hx : HX), t = t → True := fun _ _ => trivial
    have hpl := hlen j hj
    refine par_i ?_ ?_
    all_goals
      refine node_pushs (sz := 1) (vs := [.int .u8 ((u / 256 ^ (nlen u - 1 - j) % 256 : Nat) : Int)]) rfl Try.underlying65 info_byte rfl (by decide) a2 (bs ++ (nlen u : Int) :: (digs (nlen u) u).take j).length c2 (bcells (bs ++ (nlen u : Int) :: (digs (nlen u) u).take j)) 2 (fun _ => rfl) (fun _ => rfl) rfl (fun _ => ?_) rfl (by simp [Value.oneCell']) (fun k _ _ q => q.elim) (fun k h1 h2 => ?_) (by unfold maxLen; omega) (by omega) (fun _ _ _ => rfl) rfl rfl (fun _ _ => rfl) ?_
      · show [Value.int .u8 (IntKind.u8.wrap (ifn .shr .u64 (u : Int) (ifn .mul .i64 8 ((nlen u : Int) - 1 - j))))] = _
        rw [ebyte]
      · rcases hfr2 k h1 h2 with q | q
        · exact .inr (.inr q)
        · exact .inl q
      intro a3 c3 hc3 hf3 hor3
      rw [frow_snoc, List.append_assoc, List.cons_append, ← digs_step hlt]
      intro ids w2 hp hf
      refine ⟨_, ⟨hf.x, hf.sep⟩, _, rfl, ⟨j + 1, a3, c3, by omega, fun k h1 h2 => ?_, ?_, rfl⟩, ?_⟩
      · rcases hor3 with ⟨q1, q2⟩ | ⟨g, q1, q2, _⟩
        · exact hfr2 k q1 (q2 ▸ h2)
        · rw [q1] at h2; cases h2; exact .inr q2
      · rw [hlen (j + 1) (by omega)]
        show (⟨[IntKind.i64.wrap ((nlen u : Int) - 1 - j - 1)], [], [], [(bs ++ (nlen u : Int) :: (digs (nlen u) u).take j).length + 1, c3], [a3]⟩ : Vals) = _
        rw [wrap_i64 (by omega), hpl]
        simp only [Vals.mk.injEq, List.cons.injEq, and_true, true_and]
        omega
      · show (IntKind.i64.wrap ((nlen u : Int) - 1 - j - 1) + 1).toNat < ((nlen u : Int) - 1 - j + 1).toNat
        rw [wrap_i64 (by omega)]; omega
  · refine br_f (show decide ((nlen u : Int) - 1 - j ≥ 0) = false from decide_eq_false (by omega)) ?_
    obtain rfl : j = nlen u := by omega
    have ht : (digs (nlen u) u).take (nlen u) = digs (nlen u) u := List.take_of_length_le (by rw [digs_len]; exact Nat.le_refl _)
    rw [ht]
    intro ids w2 hp hf
    refine ⟨a2, c2, ?_, ?_, hf.x.2, hf.chg, hfr2⟩
    · show Ending.returned (.pointer (some ⟨idAt ids 0, 0, none⟩)) = _
      rw [idAt0 hp]
    · have := hf.blkAt 0 rfl
      rw [idAt0 hp] at this
      exact this
section
variable {C : Cfg} {ρ : Env} {pre : List Nat} {rest : HX} {L : Stack} {m m' : Mem} {args : List SV} {r : SV} {t : Tree} {a : Option Addr} {cap : Nat} {bs bs' : List Int}
theorem w_at {ids : List Nat} {w : World} {cs : List LV} (n : Nat) (hf : Facts C m ρ ids (rest.and (frow a cap bs)) w) (hn : m.hp[n]? = some (151, cs)) (hcs : ∀ ids, cellsDen ρ ids cs = [.slice a bs.length cap]) : WAt w (idAt ids n) a cap bs := by
  have hlt : n < m.hp.length := by
    rcases Nat.lt_or_ge n m.hp.length with q | q
    · exact q
    · rw [List.getElem?_eq_none q] at hn; cases hn
  have hmem := idAt_mem (ids := ids) (n := n) (hf.len ▸ hlt)
  have hb := hf.blk n _ _ hn
  rw [hcs] at hb
  exact ⟨hb, hf.x.2, fun k hk => ⟨(hf.sep k (.inr hk)).1, fun e => (hf.sep k (.inr hk)).2 (e ▸ hmem)⟩⟩
theorem node_wr {fn : Nat} {cs : List LV} (n : Nat) (vs : Option Addr → Nat → Vals) (V : List Nat → Value) (AS : List Nat → Array Value) (hP : C.P = Try.prog) (hn : m.hp[n]? = some (151, cs)) (hcs : ∀ ids, cellsDen ρ ids cs = [.slice a bs.length cap]) (hM : ∀ k, cap ≠ 0 → abk a = some k → C.W.heap.size ≤ k ∨ C.M k) (hrest : ∀ k, cap ≠ 0 → abk a = some k → ¬ rest.F k)
    (hargs : ∀ ids, (args.map (SV.den ρ ids)).toArray = AS ids) (hcall : ∀ ids w, pre <+: ids → Facts C m ρ ids (rest.and (frow a cap bs)) w → WAt w (idAt ids n) a cap bs → Calls Try.prog fn (AS ids) w (WR w (idAt ids n) a cap bs' (V ids)))
    (cs' : List LV) (hhp : m'.hp = m.hp.set n (151, cs')) (hcs' : ∀ a' cap' ids, cellsDen (ρ.add (vs a' cap')) ids cs' = [.slice a' bs'.length cap']) (hr : ∀ a' cap' ids, r.den (ρ.add (vs a' cap')) ids = V ids) (hfit : hpFits m.c m.hp.length m.hp = true) (hc : ∀ a' cap', (ρ.add (vs a' cap')).cnt = m'.c) (h1 : ∀ a' cap' v, v ∈ (vs a' cap').v → v.oneCell' = true)
    (h : ∀ a' cap', (∀ k, cap' ≠ 0 → abk a' = some k → (C.W.heap.size ≤ k ∨ C.M k) ∧ ¬ rest.F k) → (∀ k, cap' ≠ 0 → abk a' = some k → (cap ≠ 0 ∧ abk a = some k) ∨ C.W.heap.size ≤ k) → t.holds C (ρ.add (vs a' cap')) pre (rest.and (frow a' cap' bs')) L) :
    (Tree.call fn args m r m' t).holds C ρ pre (rest.and (frow a cap bs)) L := by
  intro ids w hp hf
  rw [hP, hargs]
  refine (hcall ids w hp hf (w_at n hf hn hcs)).mono ?_
  rintro e w' ⟨a', cap', rfl, hb, hX, hch, hfr⟩
  have nres : ∀ k, w.heap.size ≤ k → ¬ rest.F k := fun k hk hF => by have := (hf.sep k (.inl hF)).1; omega
  have hlt : n < m.hp.length := by
    rcases Nat.lt_or_ge n m.hp.length with q | q
    · exact q
    · rw [List.getElem?_eq_none q] at hn; cases hn
  refine ⟨_, ids, rest.and (frow a' cap' bs'), by rw [← hr a' cap' ids], List.prefix_refl _, hf.act (hx' := rest.and (frow a' cap' bs')) hch (fun b hb => ?_) hn (by rw [hcs']; exact hb) ⟨rest.loc w w' hf.x.1 fun k hk => hch.block k (hf.sep k (.inl hk)).1 fun q => ?_, hX⟩ (fun k hk => ?_) hhp hfit (hc _ _) (h1 _ _), holds_pre t hp (h a' cap' (fun k h1 h2 => ⟨?_, fun hF => ?_⟩) (fun k h1 h2 => ?_))⟩
  · rcases hb with hb | ⟨h1, h2⟩
    · exact .inl hb
    · exact .inr ⟨.inr ⟨h1, h2⟩, hM b h1 h2⟩
  · rcases q with q | ⟨h1, h2⟩
    · exact (hf.sep k (.inl hk)).2 (q ▸ idAt_mem (hf.len ▸ hlt))
    · exact hrest k h1 h2 hk
  · rcases hk with hk | hk
    · exact .inl (.inl hk)
    · rcases hfr k hk.1 hk.2 with q | q
      · exact .inl (.inr q)
      · exact .inr ⟨q, frow_lt hX hk.1 hk.2⟩
  · rcases hfr k h1 h2 with q | q
    · exact hM k q.1 q.2
    · exact .inl (Nat.le_trans hf.chg.size q)
  · rcases hfr k h1 h2 with q | q
    · exact hrest k q.1 q.2 hF
    · exact nres k q hF
  · rcases hfr k h1 h2 with q | q
    · exact .inl q
    · exact .inr (Nat.le_trans hf.chg.size q)
end
theorem wint_any (nb : Nat) (a : Option Addr) (cap : Nat) (bs : List Int) (i : Int) (hi : I64 i) (w : World) (H : WAt w nb a cap bs) (hl : bs.length + 9 ≤ 140737488355328) : Calls Try.prog 59 #[.pointer (some ⟨nb, 0, none⟩), .int .i64 i] w (WR w nb a cap (bs ++ numB (foldN i)) (.pointer (some ⟨nb, 0, none⟩))) := by
  have hu := foldN_lt hi
  refine calls_at (tab_ok _) Try.func59 rfl tWInt (ρ := ⟨[i], [], [], [bs.length, cap], [a]⟩) (ids := [nb]) (hx := HX.nil.and (frow a cap bs)) (M := fun x => x = nb ∨ (cap ≠ 0 ∧ abk a = some x)) rfl (Facts.initx rfl oneNil H.blk rfl (.inl rfl) ⟨trivial, H.mem⟩ (fun k hk => hk.elim (fun q => q.elim) (H.sep k))) ?_
  refine node_val ⟨[(foldN i : Int)], [], [], [], []⟩ (fun w => fold_any hi w) (fun _ => rfl) (fun _ => rfl) rfl rfl rfl oneNil ?_
  refine node_wr 0 (fun a' c' => ⟨[], [], [], [(bs ++ numB (foldN i)).length, c'], [a']⟩) (fun ids => .pointer (some ⟨idAt ids 0, 0, none⟩)) (fun ids => #[.pointer (some ⟨idAt ids 0, 0, none⟩), .int .u64 (foldN i : Int)]) rfl rfl (fun _ => rfl) (fun k h1 h2 => .inr (.inr ⟨h1, h2⟩)) (fun k _ _ q => q.elim) (fun _ => rfl) (fun ids w2 hp hf HW => wnum_any _ a cap bs (foldN i) hu w2 HW hl) [.sl 1 (.var 2) (.var 3)] rfl (fun _ _ _ => rfl) (fun _ _ _ => rfl) rfl (fun _ _ => rfl) (fun _ _ => oneNil) ?_
  intro a' c' hk hk2 ids w2 hp hf
  refine ⟨a', c', ?_, ?_, hf.x.2, hf.chg, hk2⟩
  · show Ending.returned (.pointer (some ⟨idAt ids 0, 0, none⟩)) = _
    rw [idAt0 hp]
  · have := hf.blkAt 0 rfl
    rw [idAt0 hp] at this
    exact this
theorem wbytes_any (nb : Nat) (a : Option Addr) (cap : Nat) (bs : List Int) (w : World) (H : WAt w nb a cap bs) (hl : bs.length ≤ 140737488355328) : Calls Try.prog 60 #[.pointer (some ⟨nb, 0, none⟩)] w (NewO w id bs) := by
  refine calls_at (tab_ok _) Try.func60 rfl tWBytes (ρ := ⟨[], [], [], [bs.length, cap], [a]⟩) (ids := [nb]) (hx := frow a cap bs) (M := fun x => x = nb) rfl (Facts.initx rfl oneNil H.blk rfl rfl H.mem H.sep) ?_
  refine node_appends (xs := []) rfl Try.underlying65 info_byte rfl (by decide) none 0 0 (fun _ => a) bs.length cap (bcells bs) (by simp [bcells_len]) (fun ids w _ _ => HX.rw_nil _ _ _ w) (fun ids w2 hp hf => frow_cells hf.x) (bcells_one bs) (fun w h => ⟨h, fun _ q => q⟩) (fun k h => absurd rfl h) (fun k h => absurd rfl h) (fun k h => absurd rfl h) (by unfold maxLen; omega) (by omega) (by intros; kernel_rfl) (by intros; kernel_rfl) (by intros; kernel_rfl) rfl rfl (fun _ _ => rfl) ?_
  intro a' c' _ hd hw ids w2 hp hf
  have e0 := hf.blkAt 0 rfl
  rw [idAt0 hp] at e0
  have hX := hf.x.2
  rw [Nat.zero_add, List.nil_append] at hX
  refine ⟨a', c', ?_, hX, fun k h1 h2 => ?_, (hf.chg.same (e0.trans H.blk.symm)).below⟩
  · show Ending.returned (.slice a' (0 + bs.length) c') = _
    rw [Nat.zero_add]; rfl
  · rcases hw k h1 h2 with q | q
    · exact absurd rfl q.1
    · exact q.1
theorem wnew_any (w : World) : Calls Try.prog 57 #[] w (NewB w 151 [.slice none 0 0]) := by
  refine calls_at (tab_ok _) Try.func57 rfl tWNew (ρ := ⟨[], [], [], [], []⟩) (ids := []) rfl (Facts.initP rfl oneNil) ?_
  exact new_done (k := 0) rfl (fun _ => rfl) (fun _ => rfl)
end Go.Proofs.Ytfjiolgdcphjhaa
