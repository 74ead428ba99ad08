/- Part 15 of the texts of a proof about the given program: what the statement's proof needs of them. -/
import Derived.Test.YtbedoemdjlollaaKJudgeLost14
namespace Go.Proofs.Ytbedoemdjlollaa
open Go.ChangeShapes Go.WideShapes Go.ChangeAt Go.RowKit Go.Syn Go.Eng
set_option linter.unusedVariables false
set_option linter.unusedSimpArgs false
set_option maxRecDepth 100000
def pSe (tt : Option Addr) (i : Nat) : Value := .pointer (some (((tt.getD ⟨0, 0, none⟩).add (i * 3)).add 0))
def fAsk (b : Nat) : Value := .func (.func 74) #[] #[.pointer (some ⟨b, 0, none⟩)]
theorem pureS_same {P : Program} {w : World} {b tb : Nat} {us : List Value} {R : Ending → World → Prop} {m : Mem} {ρ : Env} {ids : List Nat} {hx : HX} {w2 : World} (hf : Facts ⟨P, w, fun x => x = b, R⟩ m ρ ids hx w2) (h2 : Blk w2 b us tb) (h1 : Blk w b us tb) : Below w.heap.size w w2 := (hf.chg.same (h2.trans h1.symm)).below
theorem ask1_any (k : KpD) (b : Nat) (tt : Option Addr) (es : List SE) (i : Nat) (e : SE) (w : World) (hb : Blk w b [pSe tt i] 149) (Ht : Cells w tt (secells es)) (he : es[i]? = some e) (hne : blk tt ≠ b) : Calls Try.prog 74 #[.agg k.cells.toArray, .pointer (some ⟨b, 0, none⟩)] w (PureAt w (.bool (decide (k.seq ≤ e.s.ack)))) := by
  refine calls_at (tab_ok _) Try.func74 rfl tAsk1 (ρ := ⟨[k.seq, k.kind, k.re, k.im, (i : Int)], [], [], [], [tt]⟩) (ids := [b]) (hx := HX.cl tt (secells es)) (M := fun x => x = b) rfl (Facts.initx rfl oneNil hb (by kernel_rfl) rfl Ht (fun k hk => ⟨cl_sep Ht k hk, fun q => hne (by obtain ⟨_, q2⟩ := hk; rw [← q2, q])⟩)) ?_
  refine node_ldk ⟨[e.s.ack], [], [], [], []⟩ (fun _ => .pointer (some (((tt.getD ⟨0, 0, none⟩).add (i * 3)).add 1))) [.int .i64 e.s.ack] (by intros; kernel_rfl) (by intros; kernel_rfl) (fun ids w2 hp hf => (flat_part se_len hf.x he (o := 1) [.int .i64 e.s.ack] (fun j u hj => by cases j with | zero => exact hj | succ j => simp at hj) (by simp)).2 _ (fun q => q)) (by kernel_rfl) oneNil ?_
  intro ids w2 hp hf
  have e0 := hf.blkAt 0 rfl
  rw [idAt0 hp] at e0
  exact ⟨by kernel_rfl, pureS_same hf e0 hb⟩
theorem tw_of {α : Type} {q : α → Bool} {l : List α} : ∀ {i : Nat}, i ≤ l.length → (∀ (x : Nat) (k : α), x < i → l[x]? = some k → q k = true) → (∀ k, l[i]? = some k → q k = false) → (l.takeWhile q).length = i := by
  induction l with
  | nil => intro i h _ _; simp at h; subst h; rfl
  | cons k r ih =>
    intro i h h1 h2
    cases i with
    | zero => rw [List.takeWhile_cons, h2 k rfl]; rfl
    | succ i =>
      rw [List.takeWhile_cons, h1 0 k (Nat.zero_lt_succ _) rfl]
      show (r.takeWhile _).length + 1 = i + 1
      rw [ih (i := i) (by rw [List.length_cons] at h; omega) (fun x y hx hy => h1 (x + 1) y (by omega) (by simpa using hy)) (fun y hy => h2 y (by simpa using hy))]
def live (ack : Int) (k : KpD) : Bool := decide (ack < k.seq)
def fstI (ack : Int) (l : List KpD) : Nat := (l.takeWhile (live ack)).length
def IdI (ack : Int) (l : List KpD) (hx0 : HX) (vs : Vals) (hx : HX) : Prop := ∃ j : Nat, j ≤ l.length ∧ (∀ (x : Nat) (k : KpD), x < j → l[x]? = some k → live ack k = true) ∧ vs = ⟨[(j : Int)], [], [], [], []⟩ ∧ hx = hx0
theorem idxk_any (a : Option Addr) (cap : Nat) (l : List KpD) (b : Nat) (tt : Option Addr) (es : List SE) (i : Nat) (e : SE) (w : World) (H : Cells w a (kcells l)) (hl : l.length ≤ 1000000) (hb : Blk w b [pSe tt i] 149) (Ht : Cells w tt (secells es)) (he : es[i]? = some e) (hne : blk tt ≠ b) (hna : l ≠ [] → blk a ≠ b) :
    Calls Try.prog 87 #[.slice a l.length cap, fAsk b] w (PureAt w (.int .i64 (if fstI e.s.ack l = l.length then -1 else (fstI e.s.ack l : Int)))) := by
  refine calls_at (tab_ok _) Try.func87 rfl tIdxK (ρ := ⟨[(i : Int)], [], [], [l.length, cap], [a, tt]⟩) (ids := [b]) (hx := (HX.cl tt (secells es)).and (HX.cl a (kcells l))) (M := fun x => x = b) rfl (Facts.initx rfl oneNil hb (by kernel_rfl) rfl ⟨Ht, H⟩ (fun k hk => ?_)) ?_
  · rcases hk with hk | hk
    · exact ⟨cl_sep Ht k hk, fun q => hne (by obtain ⟨_, q2⟩ := hk; rw [← q2, q])⟩
    · exact ⟨cl_sep H k hk, fun q => by obtain ⟨q1, q2⟩ := hk; exact hna (fun z => q1 (by rw [z]; rfl)) (by rw [← q2, q])⟩
  refine loop_i (IdI e.s.ack l ((HX.cl tt (secells es)).and (HX.cl a (kcells l)))) (fun vs => l.length - (vs.i.headD 0).toNat) (fun ids w2 hp hf => ⟨_, ⟨hf.x, hf.sep⟩, 0, Nat.zero_le _, fun x k h => absurd h (Nat.not_lt_zero _), rfl, rfl⟩) ?_
  rintro vs hx' hcnt ⟨j, hj, h1, rfl, rfl⟩
  by_cases hlt : j < l.length
  · refine br_T (decide ((j : Int) < (l.length : Int))) (by kernel_rfl) (decide_eq_true (by omega)) ?_
    have hwk : IntKind.i64.wrap ((j : Int) + 1) = ((j + 1 : Nat) : Int) := by rw [wrap_i64 (by omega)]; omega
    obtain ⟨k, hk⟩ : ∃ k, l[j]? = some k := ⟨_, List.getElem?_eq_getElem hlt⟩
    have hkc : ∀ (j : Nat) (u : Value), k.cells[j]? = some u → k.cells[0 + j]? = some u := fun j u hj => by rw [Nat.zero_add]; exact hj
    obtain ⟨s1, q1⟩ := flat_part kp_len H hk (o := 0) k.cells hkc (by simp [KpD.cells])
    refine need_k (a.isSome = true ∧ (0 : Int) ≤ j ∧ (j : Int) < l.length) (by kernel_rfl) ⟨s1, by omega, by omega⟩ ?_
    refine node_ldk ⟨[k.seq, k.kind, k.re, k.im], [], [], [], []⟩ (fun _ => .pointer (some (((a.getD ⟨0, 0, none⟩).add (j * 4)).add 0))) k.cells (by intros; kernel_rfl) (by intros; kernel_rfl) (fun ids w2 hp hf => (flat_part kp_len hf.x.2 hk (o := 0) k.cells hkc (by simp [KpD.cells])).2 _ (fun q => q)) (by kernel_rfl) oneNil ?_
    refine node_PI ⟨[], [decide (k.seq ≤ e.s.ack)], [], [], []⟩ (fun ids => #[.agg k.cells.toArray, .pointer (some ⟨idAt ids 0, 0, none⟩)]) (.bool (decide (k.seq ≤ e.s.ack))) (by intros; kernel_rfl) (by intros; kernel_rfl) (by kernel_rfl) (by kernel_rfl) (by kernel_rfl) oneNil (fun ids w2 hp hf => ask1_any k (idAt ids 0) tt es i e w2 (hf.blkAt 0 rfl) hf.x.1 he (by rw [idAt0 hp]; exact hne)) ?_
    by_cases hc : k.seq ≤ e.s.ack
    · refine br_T (decide (k.seq ≤ e.s.ack)) (by kernel_rfl) (decide_eq_true hc) ?_
      have hfi : fstI e.s.ack l = j := tw_of hj h1 (fun k' h => by rw [hk] at h; cases h; exact decide_eq_false (by omega))
      rw [hfi, if_neg (by omega)]
      intro ids w2 hp hf
      have e0 := hf.blkAt 0 rfl
      rw [idAt0 hp] at e0
      exact ⟨by kernel_rfl, pureS_same hf e0 hb⟩
    · refine br_F (decide (k.seq ≤ e.s.ack)) (by kernel_rfl) (decide_eq_false hc) ?_
      refine again_V ⟨[((j + 1 : Nat) : Int)], [], [], [], []⟩ rfl (fun ids => Eq.trans (b := ⟨[IntKind.i64.wrap ((j : Int) + 1)], [], [], [], []⟩) (by kernel_rfl) (by rw [hwk])) _ (fun w2 ids hf => ⟨hf.x, hf.sep⟩) ⟨⟨j + 1, by omega, fun x k' hx hk' => ?_, rfl, rfl⟩, ?_⟩
      · rcases Nat.lt_or_ge x j with q | q
        · exact h1 x k' q hk'
        · have : x = j := by omega
          subst this; rw [hk] at hk'; cases hk'; exact decide_eq_true (by omega)
      · show l.length - (((j + 1 : Nat) : Int)).toNat < l.length - ((j : Int)).toNat
        omega
  · refine br_F (decide ((j : Int) < (l.length : Int))) (by kernel_rfl) (decide_eq_false (by omega)) ?_
    have hfi : fstI e.s.ack l = l.length := tw_of (Nat.le_refl _) (fun x k hx hk => h1 x k (by omega) hk) (fun k h => by rw [List.getElem?_eq_none (Nat.le_refl _)] at h; cases h)
    rw [if_pos hfi]
    intro ids w2 hp hf
    have e0 := hf.blkAt 0 rfl
    rw [idAt0 hp] at e0
    exact ⟨by kernel_rfl, pureS_same hf e0 hb⟩
def DelR (w : World) (a : Option Addr) (cap b : Nat) (pc : Value) (l : List KpD) (r : Ending) (w' : World) : Prop := r = .returned (.slice a l.length cap) ∧ (HX.rw 4 143 a l.length cap (kcells l)).X w' ∧ Blk w' b [pc] 149 ∧ Chg (fun x => x = b ∨ (cap ≠ 0 ∧ abk a = some x)) w w'
def DlI (ack : Int) (l : List KpD) (hx0 : HX) (a : Option Addr) (cap : Nat) (vs : Vals) (hx : HX) : Prop := ∃ (i j : Nat) (X : List KpD), i < j ∧ j ≤ l.length ∧ X.length = l.length ∧ X.take i = (l.take j).filter (live ack) ∧ X.drop j = l.drop j ∧
  vs = ⟨[(i : Int), (j : Int)], [], [], [], []⟩ ∧ hx = hx0.and (HX.rw 4 143 a l.length cap (kcells X))
theorem filter_all {α : Type} {q : α → Bool} {l : List α} (h : (l.takeWhile q).length = l.length) : l.filter q = l := by
  induction l with
  | nil => rfl
  | cons x r ih =>
    rw [List.takeWhile_cons] at h
    split at h
    · rename_i hq
      rw [List.filter_cons, if_pos hq, ih (by simpa using h)]
    · simp at h
theorem take_tw {α : Type} {q : α → Bool} (l : List α) : (l.take (l.takeWhile q).length).filter q = l.take (l.takeWhile q).length := by
  induction l with
  | nil => rfl
  | cons x r ih =>
    rw [List.takeWhile_cons]
    split
    · rename_i hq
      rw [List.length_cons, List.take_succ_cons, List.filter_cons, if_pos hq, ih]
    · rfl
set_option maxHeartbeats 1000000 in
theorem delk_any (a : Option Addr) (cap : Nat) (l : List KpD) (b : Nat) (tt : Option Addr) (es : List SE) (i : Nat) (e : SE) (w : World) (H : (HX.rw 4 143 a l.length cap (kcells l)).X w) (hl : l.length ≤ 1000000) (hb : Blk w b [pSe tt i] 149) (Ht : Cells w tt (secells es)) (he : es[i]? = some e) (hne : blk tt ≠ b) (hna : ∀ k, cap ≠ 0 → abk a = some k → k ≠ b ∧ ¬ (HX.cl tt (secells es)).F k) :
    Calls Try.prog 73 #[.slice a l.length cap, fAsk b] w (DelR w a cap b (pSe tt i) (l.filter (live e.s.ack))) := by
  refine calls_at (tab_ok _) Try.func73 rfl tDelK (ρ := ⟨[(i : Int)], [], [], [l.length, cap], [a, tt]⟩) (ids := [b]) (hx := (HX.cl tt (secells es)).and (HX.rw 4 143 a l.length cap (kcells l))) (M := fun x => x = b ∨ (cap ≠ 0 ∧ abk a = some x)) rfl (Facts.initx rfl oneNil hb (by kernel_rfl) (.inl rfl) ⟨Ht, H⟩ (fun k hk => ?_)) ?_
  · rcases hk with hk | hk
    · exact ⟨cl_sep Ht k hk, fun q => hne (by obtain ⟨_, q2⟩ := hk; rw [← q2, q])⟩
    · exact ⟨rw_blt H hk.1 hk.2, (hna k hk.1 hk.2).1⟩
  obtain ⟨ack, eack⟩ : ∃ x, x = e.s.ack := ⟨_, rfl⟩
  rw [← eack]
  have hlen := rw_le H
  have cellsne : ∀ {X : List KpD} {w2 : World}, X.length = l.length → (HX.rw 4 143 a l.length cap (kcells X)).X w2 → X ≠ [] → blk a ≠ b := fun {X w2} hX hx hne2 => by
    have hc : cap ≠ 0 := by
      have := (rw_le hx).1
      have : X.length ≠ 0 := fun q => hne2 (List.eq_nil_of_length_eq_zero q)
      omega
    obtain ⟨g, _, rfl, _⟩ := rw_open hx hc
    exact (hna g hc rfl).1
  have fin : ∀ {ρ : Env} {ids : List Nat} {w2 : World} {R : Ending → World → Prop} {v : SV} {l' : List KpD} {c : Cnt}, [b] <+: ids → Facts ⟨Try.prog, w, fun x => x = b ∨ (cap ≠ 0 ∧ abk a = some x), R⟩ ⟨[(149, [.adr 1 (.var 0) 3 0])], c⟩ ρ ids ((HX.cl tt (secells es)).and (HX.rw 4 143 a l'.length cap (kcells l'))) w2 → v.den ρ ids = .slice a l'.length cap → cellsDen ρ ids [.adr 1 (.var 0) 3 0] = [pSe tt i] → DelR w a cap b (pSe tt i) l' (.returned (v.den ρ ids)) w2 := fun hp hf hv hc => by
    have e0 := hf.blkAt 0 rfl
    rw [idAt0 hp, hc] at e0
    exact ⟨by rw [hv], hf.x.2, e0, hf.chg⟩
  refine node_PI ⟨[if fstI ack l = l.length then -1 else (fstI ack l : Int)], [], [], [], []⟩ (fun ids => #[.slice a l.length cap, fAsk (idAt ids 0)]) (.int .i64 (if fstI ack l = l.length then -1 else (fstI ack l : Int))) (by intros; kernel_rfl) (by intros; kernel_rfl) (by kernel_rfl) (by kernel_rfl) (by kernel_rfl) oneNil (fun ids w2 hp hf => by rw [eack]; exact idxk_any a cap l (idAt ids 0) tt es i e w2 (rw_cells hf.x.2) hl (hf.blkAt 0 rfl) hf.x.1 he (by rw [idAt0 hp]; exact hne) (by rw [idAt0 hp]; exact cellsne rfl hf.x.2)) ?_
  by_cases hf0 : fstI ack l = l.length
  · refine br_T ((if fstI ack l = l.length then (-1 : Int) else (fstI ack l : Int)) == -1) (by kernel_rfl) (by rw [if_pos hf0]; rfl) ?_
    rw [show l.filter (live ack) = l from filter_all hf0]
    intro ids w2 hp hf
    exact fin hp hf (by kernel_rfl) (by kernel_rfl)
  refine br_F ((if fstI ack l = l.length then (-1 : Int) else (fstI ack l : Int)) == -1) (by kernel_rfl) (by rw [if_neg hf0]; exact beq_eq_false_iff_ne.2 (by omega)) ?_
  obtain ⟨m, em⟩ : ∃ m, m = fstI ack l := ⟨_, rfl⟩
  have hm : m < l.length := by
    have h2 : fstI ack l ≤ l.length := (List.takeWhile_sublist (live ack) (l := l)).length_le
    omega
  have hcap : cap ≠ 0 := by omega
  have hk0 : ∀ k, l[m]? = some k → live ack k = false := fun k hk => by
    have h1 := List.getElem?_eq_some_iff.1 hk
    have : ∀ (l : List KpD), (l.takeWhile (live ack)).length < l.length → ∀ k, l[(l.takeWhile (live ack)).length]? = some k → live ack k = false := fun l => by
      induction l with
      | nil => intro h; simp at h
      | cons x r ih =>
        intro h k hk
        rw [List.takeWhile_cons] at h hk
        split at h
        · rename_i hq
          rw [if_pos hq, List.length_cons, List.getElem?_cons_succ] at hk
          exact ih (by simpa using h) k hk
        · rename_i hq
          rw [if_neg hq] at hk
          simp at hk
          subst hk
          simpa using hq
    exact this l (by rw [show (l.takeWhile (live ack)).length = m from em.symm]; exact hm) k (by rw [show (l.takeWhile (live ack)).length = m from em.symm]; exact hk)
  have hst : l.take m = (l.take (m + 1)).filter (live ack) := by
    obtain ⟨k, hk⟩ : ∃ k, l[m]? = some k := ⟨_, List.getElem?_eq_getElem hm⟩
    rw [List.take_add_one, hk, List.filter_append]
    have h1 : [k].filter (live ack) = [] := by rw [List.filter_cons, if_neg (by rw [hk0 k hk]; decide)]; rfl
    show _ = _ ++ [k].filter (live ack)
    rw [h1, List.append_nil, em]
    exact (take_tw l).symm
  have hdis : ∀ k, cap ≠ 0 → abk a = some k → ¬ (HX.cl tt (secells es)).F k := fun k h1 h2 => (hna k h1 h2).2
  refine loop_i (DlI ack l (HX.cl tt (secells es)) a cap) (fun vs => l.length - (vs.i.getD 1 0).toNat) (fun ids w2 hp hf => ⟨_, ⟨hf.x, hf.sep⟩, m, m + 1, l, by omega, by omega, rfl, hst, rfl, ?_, rfl⟩) ?_
  · refine Eq.trans (b := ⟨[if fstI ack l = l.length then (-1 : Int) else (fstI ack l : Int), IntKind.i64.wrap ((if fstI ack l = l.length then (-1 : Int) else (fstI ack l : Int)) + 1)], [], [], [], []⟩) (by kernel_rfl) ?_
    rw [if_neg hf0, ← em, wrap_i64 (by omega)]; rfl
  rintro vs hx' hcnt ⟨i2, j, X, hij, hj, hX, ht, hd, rfl, rfl⟩
  refine holds_env (ρ' := ⟨[(i : Int), (if fstI ack l = l.length then -1 else (fstI ack l : Int)), (i2 : Int), (j : Int)], [], [], [l.length, cap], [a, tt]⟩) (by kernel_rfl) ?_
  by_cases hlt : j < l.length
  · refine br_T (decide ((j : Int) < (l.length : Int))) (by kernel_rfl) (decide_eq_true (by omega)) ?_
    have hwj : IntKind.i64.wrap ((j : Int) + 1) = ((j + 1 : Nat) : Int) := by rw [wrap_i64 (by omega)]; omega
    have hwi : IntKind.i64.wrap ((i2 : Int) + 1) = ((i2 + 1 : Nat) : Int) := by rw [wrap_i64 (by omega)]; omega
    obtain ⟨k, hk⟩ : ∃ k, l[j]? = some k := ⟨_, List.getElem?_eq_getElem hlt⟩
    have hXk : X[j]? = some k := by
      have h1 : (X.drop j)[0]? = (l.drop j)[0]? := by rw [hd]
      rw [List.getElem?_drop, List.getElem?_drop, Nat.add_zero] at h1
      rw [h1]; exact hk
    have hkc : ∀ (j : Nat) (u : Value), k.cells[j]? = some u → k.cells[0 + j]? = some u := fun j u hj => by rw [Nat.zero_add]; exact hj
    have hsm : a.isSome = true := by
      obtain ⟨g, _, e1, _⟩ := rw_open H hcap
      rw [e1]; rfl
    refine need_k (a.isSome = true ∧ (0 : Int) ≤ j ∧ (j : Int) < l.length) (by kernel_rfl) ⟨hsm, by omega, by omega⟩ ?_
    refine node_ldk ⟨[k.seq, k.kind, k.re, k.im], [], [], [], []⟩ (fun _ => .pointer (some (((a.getD ⟨0, 0, none⟩).add (j * 4)).add 0))) k.cells (by intros; kernel_rfl) (by intros; kernel_rfl) (fun ids w2 hp hf => (flat_part kp_len (rw_cells hf.x.2) hXk (o := 0) k.cells hkc (by simp [KpD.cells])).2 _ (fun q => q)) (by kernel_rfl) oneNil ?_
    refine node_PI ⟨[], [decide (k.seq ≤ ack)], [], [], []⟩ (fun ids => #[.agg k.cells.toArray, .pointer (some ⟨idAt ids 0, 0, none⟩)]) (.bool (decide (k.seq ≤ ack))) (by intros; kernel_rfl) (by intros; kernel_rfl) (by kernel_rfl) (by kernel_rfl) (by kernel_rfl) oneNil (fun ids w2 hp hf => by rw [eack]; exact ask1_any k (idAt ids 0) tt es i e w2 (hf.blkAt 0 rfl) hf.x.1 he (by rw [idAt0 hp]; exact hne)) ?_
    by_cases hc : k.seq ≤ ack
    · refine br_F (!(decide (k.seq ≤ ack))) (by kernel_rfl) (by rw [decide_eq_true hc]; rfl) ?_
      refine again_V ⟨[(i2 : Int), ((j + 1 : Nat) : Int)], [], [], [], []⟩ rfl (fun ids => Eq.trans (b := ⟨[(i2 : Int), IntKind.i64.wrap ((j : Int) + 1)], [], [], [], []⟩) (by kernel_rfl) (by rw [hwj])) _ (fun w2 ids hf => ⟨hf.x, hf.sep⟩) ⟨⟨i2, j + 1, X, by omega, by omega, hX, ?_, ?_, rfl, rfl⟩, ?_⟩
      · have h1 : [k].filter (live ack) = [] := by rw [List.filter_cons, if_neg (by unfold live; rw [decide_eq_false (by omega)]; decide)]; rfl
        rw [List.take_add_one, hk, List.filter_append, ht]
        show _ = _ ++ [k].filter (live ack)
        rw [h1, List.append_nil]
      · rw [← List.drop_drop, hd, List.drop_drop]
      · show l.length - (((j + 1 : Nat) : Int)).toNat < l.length - ((j : Int)).toNat
        omega
    · refine br_T (!(decide (k.seq ≤ ack))) (by kernel_rfl) (by rw [decide_eq_false hc]; rfl) ?_
      refine need_k (a.isSome = true ∧ (0 : Int) ≤ i2 ∧ (i2 : Int) < l.length) (by kernel_rfl) ⟨hsm, by omega, by omega⟩ ?_
      obtain ⟨x, hx⟩ : ∃ x, X[i2]? = some x := ⟨_, List.getElem?_eq_getElem (by omega)⟩
      refine node_stores (sz := 4) a l.length cap (kcells X) k.cells i2 0 (.agg k.cells.toArray) (by kernel_rfl) (by intros; kernel_rfl) (by intros; kernel_rfl) rfl (fun v hv => by simp [KpD.cells] at hv; rcases hv with rfl | rfl | rfl | rfl <;> rfl) (by rw [kp_len]; omega) (by rw [kp_len]; decide) hdis (fun q h1 h2 => .inr (.inr ⟨h1, h2⟩)) (by kernel_rfl) (by kernel_rfl) (by kernel_rfl) ?_
      rw [show spl (kcells X) (i2 * 4 + 0) k.cells = kcells (X.set i2 k) from flat_spl kp_len hx (by rw [kp_len]; decide) (by
        unfold spl
        rw [List.take_zero, List.nil_append, List.drop_of_length_le (by rw [kp_len, kp_len]; decide), List.append_nil])]
      refine again_V ⟨[((i2 + 1 : Nat) : Int), ((j + 1 : Nat) : Int)], [], [], [], []⟩ rfl (fun ids => Eq.trans (b := ⟨[IntKind.i64.wrap ((i2 : Int) + 1), IntKind.i64.wrap ((j : Int) + 1)], [], [], [], []⟩) (by kernel_rfl) (by rw [hwj, hwi])) _ (fun w2 ids hf => ⟨hf.x, hf.sep⟩) ⟨⟨i2 + 1, j + 1, X.set i2 k, by omega, by omega, by rw [List.length_set]; exact hX, ?_, ?_, rfl, rfl⟩, ?_⟩
      · have h1 : [k].filter (live ack) = [k] := by rw [List.filter_cons, if_pos (by unfold live; exact decide_eq_true (by omega))]; rfl
        rw [List.take_add_one, List.getElem?_set_self (by omega), List.take_set_of_le (Nat.le_refl _), ht, List.take_add_one, hk, List.filter_append]
        show _ = _ ++ [k].filter (live ack)
        rw [h1]; rfl
      · rw [List.drop_set_of_lt (by omega), ← List.drop_drop, hd, List.drop_drop]
      · show l.length - (((j + 1 : Nat) : Int)).toNat < l.length - ((j : Int)).toNat
        omega
  · refine br_F (decide ((j : Int) < (l.length : Int))) (by kernel_rfl) (decide_eq_false (by omega)) ?_
    obtain rfl : j = l.length := by omega
    rw [List.take_length] at ht
    have hlf : (l.filter (live ack)).length = i2 := by rw [← ht, List.length_take]; omega
    refine node_from (l := i2) (n := l.length) (cap := cap) (sz := 4) a Try.underlying139 (by kernel_rfl) info_kp (by intros; kernel_rfl) (by intros; kernel_rfl) (by omega) (by intros; kernel_rfl) (by kernel_rfl) (by kernel_rfl) (by kernel_rfl) ?_
    refine node_clear_rw (z := .agg #[.int .i64 0, .int .i64 0, .int .i64 0, .int .i64 0]) (sz := 4) (e := 143) rfl Try.underlying139 info_kp rfl (by decide) (fun v hv => by simp [Value.cells] at hv; subst hv; rfl) a l.length cap i2 (kcells X) (by omega) (by intros; kernel_rfl) hdis (fun q h1 h2 => .inr (.inr ⟨h1, h2⟩)) (by intros; kernel_rfl) (by kernel_rfl) (by kernel_rfl) (by kernel_rfl) ?_
    refine node_upto (u := i2) (n := l.length) (cap := cap) (sz := 4) a Try.underlying139 (by kernel_rfl) info_kp (by intros; kernel_rfl) (by intros; kernel_rfl) (fun ids w2 hf => (rw_le hf.x.2).1) (by intros; kernel_rfl) (by kernel_rfl) (by kernel_rfl) (by kernel_rfl) ?_
    have ha0 : sliA a 0 cap 4 = a := by
      unfold sliA
      rw [if_neg hcap]
      obtain ⟨g, _, e1, _⟩ := rw_open H hcap
      rw [e1]
      show some ((⟨g, 0, none⟩ : Addr).add (0 * 4)) = _
      rw [Go.WideShapes.add_plain]
    refine holds_eq (show _ = (HX.cl tt (secells es)).and (HX.rw 4 143 a (l.filter (live ack)).length cap (kcells (l.filter (live ack)))) from by rw [hlf, ← ht]; unfold kcells; rw [flat_take kp_len]) ?_
    intro ids w2 hp hf
    refine fin hp hf ?_ (by kernel_rfl)
    rw [hlf]
    refine Eq.trans (b := .slice (sliA a 0 cap 4) i2 cap) (by kernel_rfl) (by rw [ha0])
end Go.Proofs.Ytbedoemdjlollaa

namespace Go.Proofs.Ytbedoemdjlollaa
open Go.Eng
abbrev tTAskJb0 : List LV := [(tVi 0), (tVi 1), (tVi 2), (tVi 3), (tVi 4), (tVi 5), (tVi 6), (tVi 7)]
abbrev tTAskJm0 : Mem := ⟨[(43, tTAskJb0), (62, [(tLi 0), (tLi 0), (tLi 0)]), (141, [(tVi 0), (tLi 0), .nilsl])], ⟨9, 1, 0, 6, 3⟩⟩
abbrev tTAskJm1 : Mem := ⟨[(43, tTAskJb0), (62, [(tLi 0), (tLi 0), (tLi 0)]), (149, [(.adr 2 (.var 8) 3 0)])], ⟨10, 1, 0, 10, 5⟩⟩
abbrev tTAskJm2 : Mem := ⟨[(43, tTAskJb0), (62, [(tLi 0), (tLi 0), (tLi 0)]), (149, [(.adr 2 (.var 8) 3 0)])], ⟨11, 1, 0, 10, 5⟩⟩
abbrev tTAskJm3 : Mem := ⟨[(43, tTAskJb0), (62, [(tLi 0), (tLi 0), (tLi 0)]), (149, [(.adr 2 (.var 8) 3 0)])], ⟨11, 1, 0, 12, 6⟩⟩
abbrev tTAskJm4 : Mem := ⟨[(43, tTAskJb0), (62, [(tLi 0), (tLi 0), (tLi 0)]), (149, [(.adr 2 (.var 8) 3 0)])], ⟨12, 2, 0, 12, 6⟩⟩
abbrev tTAskJm5 : Mem := ⟨[(43, tTAskJb0), (62, [(tLi 0), (tLi 0), (tLi 0)]), (149, [(.adr 2 (.var 8) 3 0)])], ⟨12, 2, 0, 14, 7⟩⟩
abbrev tTAskJm6 : Mem := ⟨[(43, tTAskJb0), (62, [(tLi 0), (tLi 0), (tLi 0)]), (149, [(.adr 2 (.var 8) 3 0)])], ⟨10, 1, 0, 6, 3⟩⟩
abbrev tTAskJm7 : Mem := ⟨[(43, tTAskJb0), (62, [(tLi 0), (tLi 0), (tLi 0)]), (149, [(.adr 2 (.var 8) 3 0)])], ⟨10, 1, 0, 8, 4⟩⟩
abbrev tTAskJm8 : Mem := ⟨[(43, tTAskJb0), (62, [(tLi 0), (tLi 0), (tLi 0)])], ⟨8, 0, 0, 4, 2⟩⟩
abbrev tTAskJm9 : Mem := ⟨[(43, tTAskJb0), (62, [(tLi 0), (tLi 0), (tLi 0)])], ⟨9, 1, 0, 4, 2⟩⟩
set_option maxRecDepth 100000 in
theorem tTAskJ : (runF ⟨tt, fns, {cur := [1, 2, 3, 4, 5, 6, 7, 8], joins := [(7, ⟨[(0, .sl)], []⟩)]}⟩ (Try.f55.body.getD .skip) Try.f55.results.toList (entry Try.f55.ntmps [.lf (.sl 0 (.var 0) (.var 1)), .agg [.int .i64 (.var 0), .int .i64 (.var 1), .int .i64 (.var 2), .int .i64 (.var 3), .int .i64 (.var 4), .int .i64 (.var 5), .int .i64 (.var 6), .int .i64 (.var 7)]] [] ⟨8, 0, 0, 2, 1⟩)) =
  (.call 54 [(.lf (tSl 0 0 1))] ⟨[(43, tTAskJb0), (62, [(tLi 0), (tLi 0), (tLi 0)])], ⟨8, 0, 0, 2, 1⟩⟩ (.lf (tSl 1 2 3)) tTAskJm8 (.call 70 [(.lf (tSl 1 2 3)), (.lf (tVi 0)), (.lf (.fnv 71 []))] tTAskJm8 (.tup [(.false, [(tVi 8)]), (.false, [(.bool (.var 0))])]) tTAskJm9 (.join 7 tTAskJm9 ⟨[(43, tTAskJb0), (62, [(tLi 0), (tLi 0), (tLi 0)])], ⟨9, 1, 0, 6, 3⟩⟩ (.br (.not (.var 0)) (.br (.cmp .geq (.nat 2) (.lit 16)) (.done (.tup [(.false, [(tSl 1 2 3)]), (.true, [(tLi 5), (tLi 0), (tLi 0)]), (.false, [(.bool (.lit .true))])]) ⟨[(43, tTAskJb0), (62, [(tLi 5), (tLi 0), (tLi 0)])], ⟨9, 1, 0, 4, 2⟩⟩) (.call 72 [(.lf (tSl 1 2 3)), (.lf (tVi 8)), (.lf (.nsl 2 0 1 1))] ⟨[(43, tTAskJb0), (62, [(tLi 0), (tLi 0), (tLi 0)]), (141, [(tVi 0), (tLi 0), .nilsl])], ⟨9, 1, 0, 4, 2⟩⟩ (.lf (tSl 2 4 5)) tTAskJm0 (.again 7 ⟨[], [], [], [(.var 4), (.var 5)], [(.var 2)]⟩ tTAskJm0))) (.again 7 ⟨[], [], [], [(.var 2), (.var 3)], [(.var 1)]⟩ tTAskJm9)) (.need (.inb 2 (.var 8) (.nat 4)) (.ld .true (.adr 2 (.var 8) 3 1) [(tVi 9)] ⟨[(43, tTAskJb0), (62, [(tLi 0), (tLi 0), (tLi 0)]), (149, [(.adr 2 (.var 8) 3 0)])], ⟨9, 1, 0, 6, 3⟩⟩ tTAskJm6 (.gen (.store 3 (.tmp 46) (.tmp 44)) 0 [(46, (.lf (.adr 2 (.var 8) 3 1))), (44, (.lf (.int .i64 (.mx (.var 9) (.var 2)))))] tTAskJm6 .none tTAskJm6 (.ld .true (.adr 2 (.var 8) 3 2) [(tSl 3 6 7)] tTAskJm6 tTAskJm7 (.call 73 [(.lf (tSl 3 6 7)), (.lf (.fnv 74 [(2, 0)]))] tTAskJm7 (.lf (tSl 4 8 9)) tTAskJm1 (.gen (.store 139 (.tmp 55) (.tmp 53)) 0 [(55, (.lf (.adr 2 (.var 8) 3 2))), (53, (.lf (tSl 4 8 9)))] tTAskJm1 .none tTAskJm1 (.ld .true (.adr 2 (.var 8) 3 1) [(tVi 10)] tTAskJm1 tTAskJm2 (.br (.cmp .leq (.var 1) (.var 10)) (.done (.tup [(.false, [(tSl 2 4 5)]), (.true, [(tLi 4), (tLi 0), (tLi 0)]), (.false, [(.bool (.lit .true))])]) ⟨[(43, tTAskJb0), (62, [(tLi 4), (tLi 0), (tLi 0)]), (149, [(.adr 2 (.var 8) 3 0)])], ⟨11, 1, 0, 10, 5⟩⟩) (.ld .true (.adr 2 (.var 8) 3 2) [(tSl 5 10 11)] tTAskJm2 tTAskJm3 (.call 75 [(.lf (tSl 5 10 11)), (.lf (tVi 1)), (.lf (.fnv 76 []))] tTAskJm3 (.tup [(.false, [(tVi 11)]), (.false, [(.bool (.var 1))])]) tTAskJm4 (.br (.var 1) (.ld .true (.adr 2 (.var 8) 3 2) [(tSl 6 12 13)] tTAskJm4 tTAskJm5 (.need (.inb 6 (.var 11) (.nat 12)) (.ld .true (.adr 6 (.var 11) 4 1) [(tVi 12), (tVi 13), (tVi 14)] tTAskJm5 ⟨[(43, tTAskJb0), (62, [(tLi 0), (tLi 0), (tLi 0)]), (149, [(.adr 2 (.var 8) 3 0)])], ⟨15, 2, 0, 14, 7⟩⟩ (.done (.tup [(.false, [(tSl 2 4 5)]), (.true, [(tVi 12), (tVi 13), (tVi 14)]), (.false, [(.bool (.lit .true))])]) ⟨[(43, tTAskJb0), (62, [(tVi 12), (tVi 13), (tVi 14)]), (149, [(.adr 2 (.var 8) 3 0)])], ⟨15, 2, 0, 14, 7⟩⟩)))) (.ld .true (.adr 2 (.var 8) 3 2) [(tSl 6 12 13)] tTAskJm4 tTAskJm5 (.br (.cmp .geq (.nat 12) (.lit 8)) (.done (.tup [(.false, [(tSl 2 4 5)]), (.true, [(tLi 6), (tLi 0), (tLi 0)]), (.false, [(.bool (.lit .true))])]) ⟨[(43, tTAskJb0), (62, [(tLi 6), (tLi 0), (tLi 0)]), (149, [(.adr 2 (.var 8) 3 0)])], ⟨12, 2, 0, 14, 7⟩⟩) (.done (.tup [(.false, [(tSl 2 4 5)]), (.true, [(tLi 0), (tLi 0), (tLi 0)]), (.false, [(.bool (.lit .false))])]) tTAskJm5))))))))))))))))) := by kernel_rfl
end Go.Proofs.Ytbedoemdjlollaa

namespace Go.Proofs.Ytbedoemdjlollaa
open Go.Eng
end Go.Proofs.Ytbedoemdjlollaa

namespace Go.Eng
open Go.ChangeShapes Go.WideShapes Go.ChangeAt Go.RowKit Go.Syn
set_option linter.unusedVariables false
set_option linter.unusedSimpArgs false
section
variable {C : Cfg} {ρ : Env} {pre : List Nat} {hx : HX} {L : Stack} {m m' : Mem} {ty : Nat} {ps : List (Nat × SV)} {r : SV} {T : Tree}
theorem node_lit {t e len sz : Nat} {ps0 : Array (Nat × Operand)} (us : List Value) (parts : Array (Nat × Value)) (hp0 : ∀ ids, (ps0.map fun x => (x.1, envOf ρ ids ps x.2)) = parts) (hrun : ∀ w, (Instr.buildSlice t len parts).run C.P w = .ok (.slice (some ⟨w.heap.size, 0, none⟩) len len) (w.alloc (.cells us.toArray e))) (hl : us.length = len * sz) (hm : len ≤ maxLen)
    (hr : ∀ a' ids, r.den (ρ.add ⟨[], [], [], [len, len], [a']⟩) ids = .slice a' len len) (hhp : m'.hp = m.hp) (hfit : hpFits m.c m.hp.length m.hp = true) (hc : ∀ a', (ρ.add ⟨[], [], [], [len, len], [a']⟩).cnt = m'.c)
    (h : ∀ a', (∀ k, len ≠ 0 → abk a' = some k → C.W.heap.size ≤ k ∧ ¬ hx.F k) → T.holds C (ρ.add ⟨[], [], [], [len, len], [a']⟩) pre (hx.and (HX.rw sz e a' len len us)) L) : (Tree.gen (.buildSlice t len ps0) ty ps m (some r) m' T).holds C ρ pre hx L := by
  intro ids w hp hf
  unfold GenRun
  have hg : w.grownBy (w.alloc (.cells us.toArray e)) none := ⟨rfl, rfl, rfl, by show w.heap.size ≤ (w.heap.push _).size; simp, fun k hk _ => heap_alloc_old w _ hk⟩
  have hnew : (w.alloc (.cells us.toArray e)).heap[w.heap.size]? = some (.cells us.toArray e (0, 0)) := by show (w.heap.push _)[w.heap.size]? = _; simp
  have hrow : (HX.rw sz e (some ⟨w.heap.size, 0, none⟩) len len us).X (w.alloc (.cells us.toArray e)) := by
    by_cases h0 : len = 0
    · subst h0
      exact .inl ⟨rfl, rfl, List.eq_nil_of_length_eq_zero (by rw [hl]; simp)⟩
    · have := rw_shut (sz := sz) (n := len) (cap := len) h0 hnew (Nat.le_refl _) hm hl
      rwa [← hl, List.take_length] at this
  have hsz : (w.alloc (.cells us.toArray e)).heap.size = w.heap.size + 1 := by show (w.heap.push _).size = _; simp
  simp only [execOp, hp0, Sem.run_bind, Sem.run_pure, Result.andThen_ok, hrun]
  refine ⟨⟨[], [], [], [len, len], [some ⟨w.heap.size, 0, none⟩]⟩, ids, hx.and (HX.rw sz e (some ⟨w.heap.size, 0, none⟩) len len us), ?_, List.prefix_refl _, hf.turn (hx' := hx.and (HX.rw sz e (some ⟨w.heap.size, 0, none⟩) len len us)) hg (fun b e => by cases e) ⟨hx.loc w _ hf.x fun k hk => hg.block k (hf.sep k hk).1 (fun q => by cases q), hrow⟩ (fun k hk => ?_) hhp hfit (hc _) oneNil, holds_pre T hp (h _ (fun k _ hk => ?_))⟩
  · simp only [Option.map_some, hr]
  · rcases hk with hk | hk
    · exact .inl hk
    · have : w.heap.size = k := by have := hk.2; injection this
      exact .inr ⟨by omega, by omega⟩
  · have e1 : w.heap.size = k := by injection hk
    exact ⟨by have := hf.chg.size; omega, fun q => by have := (hf.sep k q).1; omega⟩
end
end Go.Eng
