/- Plain laws of a leader: what Go asks for. No program in sight. -/
import Derived.Test.YtlgpjjgkdpmidaaPrHd
namespace Go.Eng
open Go.RowKit Go.Syn Go.MapKept Go.Proofs.Ytlgpjjgkdpmidaa
set_option linter.unusedVariables false
set_option linter.unusedSimpArgs false
section
variable {α : Type}
def numb (s : Int) : List α → List (Int × α)
  | [] => []
  | v :: r => (s, v) :: numb (s + 1) r
theorem numb_len : ∀ (s : Int) (l : List α), (numb s l).length = l.length
  | _, [] => rfl
  | s, v :: r => by rw [numb, List.length_cons, List.length_cons, numb_len (s + 1) r]
theorem numb_get : ∀ (s : Int) (l : List α) (i : Nat), (numb s l)[i]? = l[i]?.map fun v => (s + (i : Int), v)
  | _, [], i => rfl
  | s, v :: r, 0 => by simp [numb]
  | s, v :: r, i + 1 => by
    rw [numb, List.getElem?_cons_succ, List.getElem?_cons_succ, numb_get (s + 1) r i]
    congr 1; funext v; congr 1; omega
theorem numb_ge : ∀ (s : Int) (l : List α) (p : Int × α), p ∈ numb s l → s ≤ p.1
  | _, [], p, h => by cases h
  | s, v :: r, p, h => by
    rcases List.mem_cons.1 h with rfl | h
    · exact Int.le_refl _
    · have := numb_ge (s + 1) r p h; omega
theorem look_all {m l : List (Int × α)} (h : ∀ p ∈ l, mlk m p.1 = some p.2) : (l.map (·.1)).filterMap (fun s => (mlk m s).map fun v => (s, v)) = l := by
  induction l with
  | nil => rfl
  | cons p r ih =>
    rw [List.map_cons, List.filterMap_cons, h p (.head _)]
    show (p.1, p.2) :: _ = _
    rw [ih fun q hq => h q (.tail _ hq)]
theorem mput_le (m : List (Int × α)) (k : Int) (v : α) : (mput m k v).length ≤ m.length + 1 := by
  rw [mput_len]; split <;> omega
theorem mput_new {m : List (Int × α)} {k : Int} (v : α) (h : mlk m k = none) : mput m k v = m ++ [(k, v)] := by
  unfold mput; rw [h]; rfl
theorem mdel_len (m : List (Int × α)) (k : Int) : (mdel m k).length ≤ m.length := List.length_filter_le _ _
structure FillS (ex : Int) (D D' : Pr α) (j : Nat) : Prop where
  hj : j ≤ D.queue.length
  q : D'.queue = D.queue.drop j
  nx : D'.next = D.next + j
  fr : D'.fresh = D.fresh ++ (numb D.next (D.queue.take j)).map (·.1)
  lk : ∀ p ∈ numb D.next (D.queue.take j), mlk D'.out p.1 = some p.2
  old : ∀ s, s < D.next → mlk D'.out s = mlk D.out s
  out : (∀ s, D.next ≤ s → mlk D.out s = none) → D'.out = D.out ++ numb D.next (D.queue.take j)
  len : D'.out.length ≤ D.out.length + j
  win : ∀ i : Nat, i < j → D.next + i - D.window ≤ ex
  stop : D.stop = true → D'.stop = true
  full : j = D.queue.length ∨ ¬ (D'.next - D.window ≤ ex ∧ D'.next ≤ 1099511627776)
  same : D'.me = D.me ∧ D'.window = D.window ∧ D'.phase = D.phase ∧ D'.r = D.r ∧ D'.n = D.n ∧ D'.mem = D.mem ∧ D'.said = D.said ∧ D'.frm = D.frm ∧ D'.best = D.best
theorem fill_spec (kd : α → Int) (ex : Int) : ∀ (k : Nat) (D : Pr α), D.queue.length = k → ∃ j, FillS ex D (Pr.fill kd ex k D) j
  | 0, D, h => ⟨0, by
    have hq : D.queue = [] := List.eq_nil_of_length_eq_zero h
    exact ⟨Nat.zero_le _, rfl, (Int.add_zero _).symm, (List.append_nil _).symm, (fun p hp => by cases hp), fun _ _ => rfl, fun _ => (List.append_nil _).symm, Nat.le_refl _, (fun i hi => absurd hi (Nat.not_lt_zero _)), id, .inl h.symm, ⟨rfl, rfl, rfl, rfl, rfl, rfl, rfl, rfl, rfl⟩⟩⟩
  | k + 1, D, h => by
    cases hq : D.queue with
    | nil => rw [hq] at h; cases h
    | cons v q =>
      by_cases hc : D.next - D.window ≤ ex ∧ D.next ≤ 1099511627776
      · obtain ⟨D1, eD1⟩ : ∃ D1 : Pr α, D1 = { D.ask kd D.next v with queue := q, next := D.next + 1 } := ⟨_, rfl⟩
        have hstep : Pr.fill kd ex (k + 1) D = Pr.fill kd ex k D1 := by
          simp only [Pr.fill, hq]
          rw [if_pos hc, eD1]
        have hq1 : D1.queue = q := by rw [eD1]
        have hn1 : D1.next = D.next + 1 := by rw [eD1]
        have ho1 : D1.out = mput D.out D.next v := by rw [eD1]; rfl
        have hf1 : D1.fresh = D.fresh ++ [D.next] := by rw [eD1]; rfl
        have hw1 : D1.window = D.window := by rw [eD1]; rfl
        obtain ⟨j, s⟩ := fill_spec kd ex k D1 (by rw [hq1]; rw [hq] at h; simpa using h)
        rw [hstep]
        have hj := s.hj
        rw [hq1] at hj
        refine ⟨j + 1, by rw [hq, List.length_cons]; omega, by rw [s.q, hq1, hq]; rfl, by rw [s.nx, hn1]; omega, ?_, ?_, ?_, ?_, ?_, ?_, ?_, ?_, ?_⟩
        · rw [s.fr, hf1, hn1, hq1, hq, List.take_succ_cons, numb, List.map_cons, List.append_assoc]; rfl
        · intro p hp
          rw [hq, List.take_succ_cons, numb] at hp
          rcases List.mem_cons.1 hp with rfl | hp
          · rw [s.old _ (by rw [hn1]; show D.next < _; omega), ho1, mlk_put, if_pos rfl]
          · exact s.lk p (by rw [hn1, hq1]; exact hp)
        · intro x hx
          rw [s.old x (by rw [hn1]; omega), ho1, mlk_put, if_neg (by omega)]
        · intro h0
          have h1 : ∀ x, D1.next ≤ x → mlk D1.out x = none := fun x hx => by rw [ho1, mlk_put, if_neg (by omega)]; exact h0 x (by omega)
          rw [s.out h1, ho1, mput_new v (h0 _ (Int.le_refl _)), hq1, hn1, hq, List.take_succ_cons, numb, List.append_assoc]; rfl
        · have := s.len
          have := mput_le D.out D.next v
          rw [ho1] at *
          omega
        · intro i hi
          cases i with
          | zero => show D.next + 0 - _ ≤ _; omega
          | succ i =>
            have := s.win i (by omega)
            rw [hn1, hw1] at this
            omega
        · intro h1
          exact s.stop (by rw [eD1]; show (D.stop || _) = true; rw [h1]; rfl)
        · rcases s.full with f | f
          · left; rw [f, hq1, hq, List.length_cons]
          · right; rw [← hw1]; exact f
        · obtain ⟨a1, a2, a3, a4, a5, a6, a7, a8, a9⟩ := s.same
          rw [a1, a2, a3, a4, a5, a6, a7, a8, a9, eD1]
          exact ⟨rfl, rfl, rfl, rfl, rfl, rfl, rfl, rfl, rfl⟩
      · have hstep : Pr.fill kd ex (k + 1) D = D := by
          simp only [Pr.fill, hq]
          rw [if_neg hc]
        rw [hstep]
        exact ⟨0, ⟨Nat.zero_le _, rfl, (Int.add_zero _).symm, (List.append_nil _).symm, (fun p hp => by cases hp), fun _ _ => rfl, fun _ => (List.append_nil _).symm, Nat.le_refl _, (fun i hi => absurd hi (Nat.not_lt_zero _)), id, .inr hc, ⟨rfl, rfl, rfl, rfl, rfl, rfl, rfl, rfl, rfl⟩⟩⟩
/-- What Go does for a leader that has nothing left to tell. -/
theorem goes_spec (kd : α → Int) (ex : Int) {D : Pr α} (h2 : D.phase = 2) (hf : D.fresh = []) : ∃ j D', D.goes kd ex = (D', numb D.next (D.queue.take j)) ∧ FillS ex D { D' with fresh := (numb D.next (D.queue.take j)).map (·.1) } j ∧ D'.fresh = [] := by
  obtain ⟨j, s⟩ := fill_spec kd ex D.queue.length D rfl
  have hfr : (Pr.fill kd ex D.queue.length D).fresh = (numb D.next (D.queue.take j)).map (·.1) := by rw [s.fr, hf]; rfl
  refine ⟨j, { Pr.fill kd ex D.queue.length D with fresh := [] }, ?_, ?_, rfl⟩
  · unfold Pr.goes
    rw [if_pos h2]
    refine Prod.ext rfl ?_
    show Pr.msgs _ = _
    unfold Pr.msgs
    rw [hfr]
    exact look_all s.lk
  · exact ⟨s.hj, s.q, s.nx, by rw [hf]; rfl, s.lk, s.old, s.out, s.len, s.win, s.stop, s.full, s.same⟩
end
end Go.Eng
