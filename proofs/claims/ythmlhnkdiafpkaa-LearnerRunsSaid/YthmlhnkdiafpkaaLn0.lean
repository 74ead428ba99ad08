/- The learner as plain data: what it holds, what its methods do. No program in sight. -/
import Derived.Test.YthmlhnkdiafpkaaEng35
import Derived.Test.YthmlhnkdiafpkaaVa
namespace Go.Eng
open Go.RowKit Go.Syn Go.MapKept Go.Proofs.Ythmlhnkdiafpkaa
set_option linter.unusedVariables false
set_option linter.unusedSimpArgs false
/-- The last vote that was heard of a node. -/
structure Hd (α : Type) where
  r : Int
  n : Int
  v : α
def Hd.map {α β : Type} (f : α → β) (h : Hd α) : Hd β := ⟨h.r, h.n, f h.v⟩
structure Ln where
  mem : List Int
  next : Int
  top : Int
  vo : List (Int × List (Int × Hd Vl))
  de : List (Int × Vl)
def Ln.openB (L : Ln) (slot : Int) (v : Vl) : Bool := decide (L.next ≤ slot ∧ slot - L.next < 128 ∧ slot ≤ 1099511627776 ∧ valE v = 0) && (mlk L.de slot).isNone
def Ln.settle (L : Ln) (slot : Int) (v : Vl) : Ln := { L with de := mput L.de slot v, vo := mdel L.vo slot }
def Ln.up (L : Ln) (slot : Int) : Ln := { L with top := max L.top slot }
def Ln.told (L : Ln) (slot : Int) (v : Vl) : Ln × Bool := if L.openB slot v then ((L.up slot).settle slot v, true) else (L, false)
/-- A slot for which something may be heard. -/
def Ln.room (L : Ln) (slot : Int) : Ln := if (mlk L.vo slot).isNone then { L with vo := mput L.vo slot [] } else L
def Ln.heard (L : Ln) (slot : Int) : List (Int × Hd Vl) := (mlk L.vo slot).getD []
def hdBal {α : Type} (o : Option (Hd α)) : Int × Int := match o with | some h => (h.r, h.n) | none => (0, 0)
def csEqB : List CmD → List CmD → Bool
  | [], [] => true
  | c :: r, d :: q => cmdEq c d && csEqB r q
  | _, _ => false
theorem csEqB_iff : ∀ {a b : List CmD}, csEqB a b = true ↔ a = b
  | [], [] => by simp [csEqB]
  | [], d :: q => by simp [csEqB]
  | c :: r, [] => by simp [csEqB]
  | c :: r, d :: q => by
    unfold csEqB
    rw [Bool.and_eq_true, cmdEq_iff, csEqB_iff, List.cons.injEq]
def vlEqB (v u : Vl) : Bool := v.k == u.k && (csEqB v.cs u.cs && v.ns == u.ns)
theorem vlEqB_iff {v u : Vl} : vlEqB v u = true ↔ v = u := by
  unfold vlEqB
  rw [Bool.and_eq_true, Bool.and_eq_true, csEqB_iff, beq_iff_eq, beq_iff_eq]
  constructor
  · rintro ⟨h1, h2, h3⟩
    cases v; cases u; simp_all
  · rintro rfl; exact ⟨rfl, rfl, rfl⟩
theorem vlSame_B (v u : Vl) : vlSame v u = vlEqB v u := by
  by_cases h : v = u
  · rw [vlSame_t h, vlEqB_iff.2 h]
  · rw [vlSame_f h]
    exact (Bool.eq_false_iff.2 fun q => h (vlEqB_iff.1 q)).symm
def votesFor (hs : List (Int × Hd Vl)) (r n : Int) (v : Vl) : List Int := (hs.filter fun p => (p.2.r == r && p.2.n == n) && vlEqB p.2.v v).map (·.1)
def Ln.note (L : Ln) (node slot : Int) (h : Hd Vl) : Ln := { L with vo := mput L.vo slot (mput (L.heard slot) node h) }
def Ln.voted (L : Ln) (node slot r n : Int) (v : Vl) : Ln × Bool :=
  if (L.openB slot v && hasB L.mem node && balB r n) = true then
    let L1 := (L.up slot).room slot
    let old := hdBal (mlk (L1.heard slot) node)
    if compareV r n old.1 old.2 ≤ 0 then (L1, false) else
    let L2 := L1.note node slot ⟨r, n, v⟩
    if enoughB L.mem (votesFor (L2.heard slot) r n v) then (L2.settle slot v, true) else (L2, false)
  else (L, false)
def Ln.pass (L : Ln) : Ln × Bool := if (mlk L.de L.next).isSome then ({ L with next := L.next + 1 }, true) else (L, false)
def vz : Vl := ⟨0, [], []⟩
def Ln.known (L : Ln) (slot : Int) : Vl × Bool := ((mlk L.de slot).getD vz, (mlk L.de slot).isSome)
def Ln.size (L : Ln) : Nat := L.vo.length + L.de.length
def above {α : Type} (m : List (Int × α)) (slot : Int) : List (Int × α) := m.filter fun p => decide (slot < p.1)
def Ln.trim (L : Ln) (slot : Int) : Ln := { L with de := above L.de (min slot (L.next - 1)) }
def Ln.jump (L : Ln) (next : Int) : Ln × Bool := if next ≤ L.next ∨ 1099511627776 < next then (L, false) else ({ L with next := next, de := above L.de (next - 1), vo := above L.vo (next - 1) }, true)
def Ln.new (mem : List Int) (next : Int) : Ln := ⟨mem, next, 0, [], []⟩
structure LnInv (L : Ln) : Prop where
  mem : L.mem.length ≤ 9
  memr : ∀ x ∈ L.mem, 1 ≤ x ∧ x ≤ 9
  next1 : 1 ≤ L.next
  next2 : L.next ≤ 1099511627777
  top0 : 0 ≤ L.top
  top2 : L.top ≤ 1099511627776
  de : ∀ p ∈ L.de, 1 ≤ p.1 ∧ p.1 ≤ 1099511627776
  vo : ∀ p ∈ L.vo, 1 ≤ p.1 ∧ p.1 ≤ 1099511627776
  nde : NdK L.de
  nvo : NdK L.vo
  fr : ∀ p ∈ L.vo, mlk L.de p.1 = none ∧ NdK p.2 ∧ ∀ q ∈ p.2, balB q.2.r q.2.n = true ∧ q.1 ∈ L.mem
section
variable {L : Ln} {slot node r n : Int} {v : Vl}
theorem openB_iff : L.openB slot v = true ↔ (L.next ≤ slot ∧ slot - L.next < 128 ∧ slot ≤ 1099511627776 ∧ valE v = 0) ∧ mlk L.de slot = none := by
  unfold Ln.openB; simp [and_assoc]
theorem LnInv.up (h : LnInv L) (h1 : L.next ≤ slot) (h2 : slot ≤ 1099511627776) : LnInv (L.up slot) := by
  have := h.next1
  have := h.top0
  have := h.top2
  exact ⟨h.mem, h.memr, h.next1, h.next2, by show 0 ≤ max L.top slot; omega, by show max L.top slot ≤ _; omega, h.de, h.vo, h.nde, h.nvo, h.fr⟩
theorem LnInv.settle (h : LnInv L) (h1 : L.next ≤ slot) (h2 : slot ≤ 1099511627776) : LnInv (L.settle slot v) := by
  have := h.next1
  refine ⟨h.mem, h.memr, h.next1, h.next2, h.top0, h.top2, fun p hp => ?_, fun p hp => h.vo p (mdel_in.1 hp).1, h.nde.put _ _, h.nvo.del _, fun p hp => ?_⟩
  · rcases mput_mem hp with rfl | q
    · exact ⟨by show 1 ≤ slot; omega, h2⟩
    · exact h.de p q.1
  · obtain ⟨p1, p2⟩ := mdel_in.1 hp
    refine ⟨?_, (h.fr p p1).2⟩
    show mlk (mput L.de slot v) p.1 = none
    rw [mlk_put, if_neg p2]; exact (h.fr p p1).1
theorem LnInv.told (h : LnInv L) : LnInv (L.told slot v).1 := by
  unfold Ln.told
  split
  · rename_i ho
    obtain ⟨⟨h1, h2, h3, _⟩, _⟩ := openB_iff.1 ho
    exact (h.up h1 h3).settle h1 h3
  · exact h
theorem LnInv.room (h : LnInv L) (h1 : L.next ≤ slot) (h2 : slot ≤ 1099511627776) (h3 : mlk L.de slot = none) : LnInv (L.room slot) := by
  have := h.next1
  unfold Ln.room
  split
  · refine ⟨h.mem, h.memr, h.next1, h.next2, h.top0, h.top2, h.de, fun p hp => ?_, h.nde, h.nvo.put _ _, fun p hp => ?_⟩
    · rcases mput_mem hp with rfl | q
      · exact ⟨by show 1 ≤ slot; omega, h2⟩
      · exact h.vo p q.1
    · rcases mput_mem hp with rfl | q
      · exact ⟨h3, List.nodup_nil, fun q hq => by cases hq⟩
      · exact h.fr p q.1
  · exact h
theorem LnInv.heard (h : LnInv L) : NdK (L.heard slot) ∧ ∀ q ∈ L.heard slot, balB q.2.r q.2.n = true ∧ q.1 ∈ L.mem := by
  unfold Ln.heard
  cases e : mlk L.vo slot with
  | none => exact ⟨List.nodup_nil, (fun q hq => by cases hq)⟩
  | some hs => exact (h.fr _ (mlk_mem e)).2
theorem LnInv.note (h : LnInv L) (h1 : L.next ≤ slot) (h2 : slot ≤ 1099511627776) (h3 : mlk L.de slot = none) (hb : balB r n = true) (hm : node ∈ L.mem) : LnInv (L.note node slot ⟨r, n, v⟩) := by
  have := h.next1
  refine ⟨h.mem, h.memr, h.next1, h.next2, h.top0, h.top2, h.de, fun p hp => ?_, h.nde, h.nvo.put _ _, fun p hp => ?_⟩
  · rcases mput_mem hp with rfl | q
    · exact ⟨by show 1 ≤ slot; omega, h2⟩
    · exact h.vo p q.1
  · rcases mput_mem hp with rfl | q
    · obtain ⟨g1, g2⟩ := h.heard (slot := slot)
      refine ⟨h3, g1.put _ _, fun q hq => ?_⟩
      rcases mput_mem hq with rfl | q
      · exact ⟨hb, hm⟩
      · exact g2 _ q.1
    · exact h.fr p q.1
theorem room_mem : (L.room slot).mem = L.mem ∧ (L.room slot).de = L.de ∧ (L.room slot).next = L.next ∧ (L.room slot).top = L.top := by unfold Ln.room; split <;> exact ⟨rfl, rfl, rfl, rfl⟩
theorem LnInv.voted (h : LnInv L) : LnInv (L.voted node slot r n v).1 := by
  unfold Ln.voted
  split
  · rename_i ho
    simp only [Bool.and_eq_true] at ho
    obtain ⟨⟨ho, hm⟩, hb⟩ := ho
    obtain ⟨⟨h1, h2, h3, _⟩, h4⟩ := openB_iff.1 ho
    have i1 := (h.up h1 h3).room (slot := slot) h1 h3 h4
    obtain ⟨e1, e2, e3, e4⟩ := room_mem (L := L.up slot) (slot := slot)
    dsimp only
    split
    · exact i1
    · have i2 := i1.note (node := node) (slot := slot) (r := r) (n := n) (v := v) (by rw [e3]; exact h1) h3 (by rw [e2]; exact h4) hb (by rw [e1]; exact hasB_iff.1 hm)
      split
      · exact i2.settle (by show (Ln.room _ _).next ≤ _; rw [e3]; exact h1) h3
      · exact i2
  · exact h
theorem above_in {α : Type} {m : List (Int × α)} {s : Int} {p : Int × α} : p ∈ above m s ↔ p ∈ m ∧ s < p.1 := by unfold above; simp
theorem mlk_above {α : Type} (m : List (Int × α)) (s j : Int) : mlk (above m s) j = if s < j then mlk m j else none := by
  unfold above
  induction m with
  | nil => rw [List.filter_nil, mlk_nil]; split <;> rfl
  | cons p m ih =>
    rw [List.filter_cons]
    by_cases q : s < p.1
    · rw [if_pos (by simpa using q), mlk_cons, mlk_cons, ih]
      by_cases e : p.1 = j
      · rw [if_pos e, if_pos e, if_pos (by omega)]
      · rw [if_neg e, if_neg e]
    · rw [if_neg (by simpa using q), ih, mlk_cons]
      by_cases e : p.1 = j
      · rw [if_neg (by omega), if_neg (by omega)]
      · rw [if_neg e]
theorem LnInv.trim (h : LnInv L) : LnInv (L.trim slot) := by
  refine ⟨h.mem, h.memr, h.next1, h.next2, h.top0, h.top2, fun p hp => h.de p (above_in.1 hp).1, h.vo, h.nde.filter _, h.nvo, fun p hp => ⟨?_, (h.fr p hp).2⟩⟩
  show mlk (above L.de _) p.1 = none
  rw [mlk_above, (h.fr p hp).1]; split <;> rfl
theorem LnInv.pass (h : LnInv L) : LnInv L.pass.1 := by
  unfold Ln.pass
  split
  · rename_i hs
    obtain ⟨x, hx⟩ := Option.isSome_iff_exists.1 hs
    have := h.de _ (mlk_mem hx)
    have h1 := h.next1
    exact ⟨h.mem, h.memr, by show 1 ≤ L.next + 1; omega, by show L.next + 1 ≤ _; omega, h.top0, h.top2, h.de, h.vo, h.nde, h.nvo, h.fr⟩
  · exact h
theorem LnInv.jump (h : LnInv L) : LnInv (L.jump slot).1 := by
  have := h.next1
  unfold Ln.jump
  split
  · exact h
  · rename_i hs
    refine ⟨h.mem, h.memr, by show 1 ≤ slot; omega, by show slot ≤ _; omega, h.top0, h.top2, fun p hp => h.de p (above_in.1 hp).1, fun p hp => h.vo p (above_in.1 hp).1, h.nde.filter _, h.nvo.filter _, fun p hp => ⟨?_, (h.fr p (above_in.1 hp).1).2⟩⟩
    show mlk (above L.de _) p.1 = none
    rw [mlk_above, (h.fr p (above_in.1 hp).1).1]; split <;> rfl
theorem LnInv.new {mem : List Int} {next : Int} (hm : SetOk mem) (h1 : 1 ≤ next) (h2 : next ≤ 1099511627776) : LnInv (Ln.new mem next) :=
  ⟨by have := hm.2.1; show mem.length ≤ 9; omega, fun x hx => by obtain ⟨k, hk, rfl⟩ := mem_getD hx; exact hm.range hk, h1, by show next ≤ _; omega, Int.le_refl _, by show (0 : Int) ≤ _; omega, (fun p hp => by cases hp), (fun p hp => by cases hp), List.nodup_nil, List.nodup_nil, (fun p hp => by cases hp)⟩
/-- So many different numbers from 1 on. -/
theorem nd_len : ∀ (N : Nat) (l : List Int), l.Nodup → (∀ x ∈ l, 1 ≤ x ∧ x ≤ N) → l.length ≤ N
  | 0, l, _, h => by
    cases l with
    | nil => exact Nat.le_refl _
    | cons x r => have := h x (List.mem_cons_self); omega
  | N + 1, l, hn, h => by
    have h1 := nd_len N (l.filter fun x => decide (x ≠ ((N + 1 : Nat) : Int))) (List.filter_sublist.nodup hn) fun x hx => by
      obtain ⟨q1, q2⟩ := List.mem_filter.1 hx
      have := h x q1
      have : x ≠ ((N + 1 : Nat) : Int) := of_decide_eq_true q2
      omega
    have h2 : l.length = (l.filter fun x => decide (x ≠ ((N + 1 : Nat) : Int))).length + (l.filter fun x => decide (x = ((N + 1 : Nat) : Int))).length := by
      rw [← List.countP_eq_length_filter, ← List.countP_eq_length_filter, List.length_eq_countP_add_countP (fun x => decide (x ≠ ((N + 1 : Nat) : Int)))]
      congr 1
      refine List.countP_congr fun x _ => ?_
      simp
    have h3 : (l.filter fun x => decide (x = ((N + 1 : Nat) : Int))).length ≤ 1 := by
      have hn2 := List.filter_sublist (p := fun x => decide (x = ((N + 1 : Nat) : Int))) |>.nodup hn
      have ha : ∀ x ∈ l.filter (fun x => decide (x = ((N + 1 : Nat) : Int))), x = ((N + 1 : Nat) : Int) := fun x hx => of_decide_eq_true (List.mem_filter.1 hx).2
      generalize l.filter (fun x => decide (x = ((N + 1 : Nat) : Int))) = q at hn2 ha
      cases q with
      | nil => simp
      | cons a q =>
        cases q with
        | nil => simp
        | cons b q =>
          have e1 := ha a (by simp)
          have e2 := ha b (by simp)
          simp only [List.nodup_cons, List.mem_cons, not_or] at hn2
          exact absurd (e1.trans e2.symm) hn2.1.1
    omega
theorem LnInv.lens (h : LnInv L) : L.de.length ≤ 1099511627776 ∧ L.vo.length ≤ 1099511627776 := by
  constructor
  · have := nd_len 1099511627776 (L.de.map Prod.fst) h.nde fun x hx => by
      obtain ⟨p, hp, rfl⟩ := List.mem_map.1 hx; exact h.de p hp
    rwa [List.length_map] at this
  · have := nd_len 1099511627776 (L.vo.map Prod.fst) h.nvo fun x hx => by
      obtain ⟨p, hp, rfl⟩ := List.mem_map.1 hx; exact h.vo p hp
    rwa [List.length_map] at this
theorem LnInv.hlen (h : LnInv L) : (L.heard slot).length ≤ 9 := by
  obtain ⟨h1, h2⟩ := h.heard (slot := slot)
  have := nd_len 9 ((L.heard slot).map Prod.fst) h1 fun x hx => by
    obtain ⟨p, hp, rfl⟩ := List.mem_map.1 hx; exact h.memr _ (h2 p hp).2
  rwa [List.length_map] at this
end
end Go.Eng
