/- The rows of a message, of which little is known. -/
import Derived.Test.YtadgaefmoobcoaaWi
namespace Go.Proofs.Ytadgaefmoobcoaa
open Go.ChangeShapes Go.WideShapes Go.ChangeAt Go.RowKit Go.Syn Go.Eng
set_option linter.unusedVariables false
set_option linter.unusedSimpArgs false
set_option maxRecDepth 100000
def crW (p : Pv) : Wr := ⟨8, 32, p.a1, p.v.cs.length, p.c1, fun _ => True⟩
def nrW (p : Pv) : Wr := ⟨1, 3, p.a2, p.v.ns.length, p.c2, fun _ => True⟩
def vrW (m : Ms) : Wr := ⟨6, 59, m.av, m.vs.length, m.cv, fun xs => ∃ ys : List (Vo Pv), xs = vocs ys ∧ ys.map Vo.v = m.vs.map Vo.v⟩
def drW (m : Ms) : Wr := ⟨1, 5, m.ad, m.d.length, m.cd, fun xs => ∃ bs, xs = bcells bs⟩
def Ms.wl (m : Ms) : List Wr := crW m.p :: nrW m.p :: vrW m :: drW m :: m.vs.flatMap fun x => [crW x.v, nrW x.v]
theorem wl_mem {m : Ms} {q : Wr} (h : q ∈ m.wl) : q = crW m.p ∨ q = nrW m.p ∨ q = vrW m ∨ q = drW m ∨ ∃ x ∈ m.vs, q = crW x.v ∨ q = nrW x.v := by
  unfold Ms.wl at h
  simp only [List.mem_cons, List.mem_flatMap, List.not_mem_nil, or_false] at h
  rcases h with h | h | h | h | ⟨x, hx, h⟩
  · exact .inl h
  · exact .inr (.inl h)
  · exact .inr (.inr (.inl h))
  · exact .inr (.inr (.inr (.inl h)))
  · exact .inr (.inr (.inr (.inr ⟨x, hx, h⟩)))
theorem wl_c {m : Ms} : crW m.p ∈ m.wl := by unfold Ms.wl; simp
theorem wl_n {m : Ms} : nrW m.p ∈ m.wl := by unfold Ms.wl; simp
theorem wl_v {m : Ms} : vrW m ∈ m.wl := by unfold Ms.wl; simp
theorem wl_d {m : Ms} : drW m ∈ m.wl := by unfold Ms.wl; simp
theorem wl_xc {m : Ms} {x : Vo Pv} (h : x ∈ m.vs) : crW x.v ∈ m.wl := by unfold Ms.wl; simp only [List.mem_cons, List.mem_flatMap]; exact .inr (.inr (.inr (.inr ⟨x, h, .inl rfl⟩)))
theorem wl_xn {m : Ms} {x : Vo Pv} (h : x ∈ m.vs) : nrW x.v ∈ m.wl := by unfold Ms.wl; simp only [List.mem_cons, List.mem_flatMap]; exact .inr (.inr (.inr (.inr ⟨x, h, .inr (.inl rfl)⟩)))
/-- Stores that keep what is known. -/
theorem st_cmd {m : Ms} {p : Nat} {u : Value} : ∀ q ∈ m.wl, q.e = 32 → ∀ xs, xs.length = q.n * q.sz → q.P xs → q.P (xs.set p u) := fun q hq he xs _ hP => by
  rcases wl_mem hq with rfl | rfl | rfl | rfl | ⟨x, _, rfl | rfl⟩
  all_goals first | trivial | exact absurd he (of_decide_eq_false rfl)
theorem st_int {m : Ms} {p : Nat} {u : Value} : ∀ q ∈ m.wl, q.e = 3 → ∀ xs, xs.length = q.n * q.sz → q.P xs → q.P (xs.set p u) := fun q hq he xs _ hP => by
  rcases wl_mem hq with rfl | rfl | rfl | rfl | ⟨x, _, rfl | rfl⟩
  all_goals first | trivial | exact absurd he (of_decide_eq_false rfl)
theorem st_byte {m : Ms} {p : Nat} {b : Int} : ∀ q ∈ m.wl, q.e = 5 → ∀ xs, xs.length = q.n * q.sz → q.P xs → q.P (xs.set p (.int .u8 b)) := fun q hq he xs _ hP => by
  rcases wl_mem hq with rfl | rfl | rfl | rfl | ⟨x, _, rfl | rfl⟩
  all_goals first | trivial | exact absurd he (of_decide_eq_false rfl) | skip
  obtain ⟨bs, rfl⟩ := hP
  exact ⟨bs.set p b, by unfold bcells; rw [List.map_set]⟩
theorem vocs_set : ∀ (ys : List (Vo Pv)) (i : Nat) (s : Int), (vocs ys).set (i * 6) (.int .i64 s) = vocs (ys.modify i fun x => { x with s := s })
  | [], i, s => by simp [vocs]
  | y :: ys, 0, s => by simp [vocs, voC, List.modify_cons]
  | y :: ys, i + 1, s => by
    have h := vocs_set ys i s
    unfold vocs at h ⊢
    rw [List.modify_succ_cons, List.flatMap_cons, List.flatMap_cons, ← h, List.set_append_right _ _ (by simp [voC]; omega)]
    congr 2
    simp [voC]; omega
theorem st_vote {m : Ms} {i : Nat} {s : Int} : ∀ q ∈ m.wl, q.e = 59 → ∀ xs, xs.length = q.n * q.sz → q.P xs → q.P (xs.set (i * 6 + 0) (.int .i64 s)) := fun q hq he xs _ hP => by
  rcases wl_mem hq with rfl | rfl | rfl | rfl | ⟨x, _, rfl | rfl⟩
  all_goals first | trivial | exact absurd he (of_decide_eq_false rfl) | skip
  obtain ⟨ys, rfl, h⟩ := hP
  refine ⟨ys.modify i fun x => { x with s := s }, by rw [Nat.add_zero, vocs_set], ?_⟩
  rw [← h]
  refine List.ext_getElem? fun j => ?_
  rw [List.getElem?_map, List.getElem?_map, List.getElem?_modify]
  by_cases hj : i = j
  · simp only [hj, if_true]
    cases ys[j]? <;> rfl
  · simp only [hj, if_false]
    cases ys[j]? <;> rfl
theorem wl_X {m : Ms} {w : World} (h : m.R.X w) : (wilds m.wl).X w := wilds_of fun q hq => by
  have hc : ∀ {p : Pv}, (pvR p).X w → (crW p).hx.X w := fun h => Wr.of (r := crW _) h.1 (rw_len h.1) trivial
  have hn : ∀ {p : Pv}, (pvR p).X w → (nrW p).hx.X w := fun h => Wr.of (r := nrW _) h.2 (rw_len h.2) trivial
  rcases wl_mem hq with rfl | rfl | rfl | rfl | ⟨x, hx, rfl | rfl⟩
  · exact hc h.1.1.1
  · exact hn h.1.1.1
  · exact Wr.of (r := vrW m) h.1.2 (rw_len h.1.2) ⟨m.vs, rfl, rfl⟩
  · exact Wr.of (r := drW m) h.2 (rw_len h.2) ⟨m.d, rfl⟩
  · exact hc (h.1.1.2 _ (List.mem_map.2 ⟨x, hx, rfl⟩))
  · exact hn (h.1.1.2 _ (List.mem_map.2 ⟨x, hx, rfl⟩))
theorem wl_F {m : Ms} {k : Nat} (h : (wilds m.wl).F k) : m.R.F k := by
  obtain ⟨q, hq, hk⟩ := wilds_F h
  rcases wl_mem hq with rfl | rfl | rfl | rfl | ⟨x, hx, rfl | rfl⟩
  · exact .inl (.inl (.inl (.inl hk)))
  · exact .inl (.inl (.inl (.inr hk)))
  · exact .inl (.inr hk)
  · exact .inr hk
  · exact .inl (.inl (.inr ⟨_, List.mem_map.2 ⟨x, hx, rfl⟩, .inl hk⟩))
  · exact .inl (.inl (.inr ⟨_, List.mem_map.2 ⟨x, hx, rfl⟩, .inr hk⟩))
end Go.Proofs.Ytadgaefmoobcoaa
