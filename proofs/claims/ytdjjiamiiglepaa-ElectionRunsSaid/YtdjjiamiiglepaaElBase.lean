/- A timer as plain data, and what its methods come to. -/
import Derived.Test.YtdjjiamiiglepaaBalBase
import Derived.Test.YtdjjiamiiglepaaLibG
namespace Go.Syn
open Go.RowKit
set_option linter.unusedVariables false
/-- A timer's numbers. -/
structure Tm where
  me : Int
  base : Int
  most : Int
  wait : Int
  since : Int
  round : Int
def Tm.ok (s : Tm) : Prop := 1 ≤ s.base ∧ s.base ≤ s.most ∧ s.most ≤ 1048576 ∧ 1 ≤ s.wait ∧ s.wait ≤ s.most ∧ 0 ≤ s.round ∧ s.round ≤ 1099511627776 ∧ I64 s.since
def tmCells (ma : Option Addr) (n mc : Nat) (s : Tm) : List Value :=
  [.int .i64 s.me, .slice ma n mc, .int .i64 s.base, .int .i64 s.most, .int .i64 s.wait, .int .i64 s.since, .int .i64 s.round]
def tickSince (s : Tm) (now : Int) : Int := if now < s.since then now else s.since
def tmTick (xs : List Int) (s : Tm) (now : Int) : Tm × Bool :=
  if 1099511627776 ≤ s.round then (s, false)
  else if now - tickSince s now < s.wait then ({ s with since := tickSince s now }, false)
  else ({ s with round := s.round + 1, since := now, wait := min (2 * s.wait) s.most }, decide (leaderV xs (s.round + 1) = s.me))
def heardB (s : Tm) (r : Int) : Bool := decide (s.round ≤ r ∧ 1 ≤ r ∧ r ≤ 1099511627776)
def tmHeard (s : Tm) (r now : Int) : Tm := if heardB s r then { s with round := r, wait := s.base, since := now } else s
def seenB (s : Tm) (r : Int) : Bool := decide (s.round < r ∧ r ≤ 1099511627776)
def tmSeen (s : Tm) (r now : Int) : Tm := if seenB s r then { s with round := r, since := now } else s
def newTm (me base most now : Int) : Tm :=
  let b := max 1 (min base 1048576)
  { me := me, base := b, most := max b (min most 1048576), wait := b, since := now, round := 0 }
theorem newTm_ok (me base most now : Int) (h : I64 now) : (newTm me base most now).ok := by
  unfold newTm Tm.ok; dsimp only
  exact ⟨by omega, by omega, by omega, by omega, by omega, by omega, by omega, h⟩
theorem tick_ok {xs : List Int} {s : Tm} {now : Int} (h : s.ok) (hn : I64 now) : (tmTick xs s now).1.ok := by
  unfold tmTick; unfold Tm.ok at *
  have : I64 (tickSince s now) := by unfold tickSince; split; exact hn; exact h.2.2.2.2.2.2.2
  split
  · exact h
  · split
    · exact ⟨h.1, h.2.1, h.2.2.1, h.2.2.2.1, h.2.2.2.2.1, h.2.2.2.2.2.1, h.2.2.2.2.2.2.1, this⟩
    · dsimp only; refine ⟨by omega, by omega, by omega, by omega, by omega, by omega, by omega, hn⟩
theorem heard_ok {s : Tm} {r now : Int} (h : s.ok) (hn : I64 now) : (tmHeard s r now).ok := by
  unfold tmHeard heardB; unfold Tm.ok at *
  split
  · rename_i hb; simp only [decide_eq_true_eq] at hb; dsimp only; exact ⟨by omega, by omega, by omega, by omega, by omega, by omega, by omega, hn⟩
  · exact h
theorem seen_ok {s : Tm} {r now : Int} (h : s.ok) (hn : I64 now) : (tmSeen s r now).ok := by
  unfold tmSeen seenB; unfold Tm.ok at *
  split
  · rename_i hb; simp only [decide_eq_true_eq] at hb; dsimp only; exact ⟨by omega, by omega, by omega, by omega, by omega, by omega, by omega, hn⟩
  · exact h

/-- Block b is a timer. -/
structure TimerAt (T : TypeId) (w : World) (b : Nat) (ma : Option Addr) (mc : Nat) (xs : List Int) (s : Tm) : Prop where
  row : Blk w b (tmCells ma xs.length mc s) T
  mem : Ints w ma xs
  ne : blk ma ≠ b
theorem TimerAt.mk' {T : TypeId} {w w' : World} {b : Nat} {ma : Option Addr} {mc : Nat} {xs : List Int} {s : Tm} (hB : Blk w' b (tmCells ma xs.length mc s) T) (hM : Ints w ma xs) (hne : blk ma ≠ b) (hg : w.grownBy w' (some b)) :
    TimerAt T w' b ma mc xs s ∧ w.grownBy w' (some b) := ⟨⟨hB, hM.grown hg hne, hne⟩, hg⟩
theorem TimerAt.ext {T : TypeId} {w w' : World} {b : Nat} {ma : Option Addr} {mc : Nat} {xs : List Int} {s : Tm} (h : TimerAt T w b ma mc xs s) (e : Below w.heap.size w w') : TimerAt T w' b ma mc xs s :=
  ⟨h.row.ext e, h.mem.ext e, h.ne⟩
theorem TimerAt.grown {T : TypeId} {w w' : World} {b r : Nat} {ma : Option Addr} {mc : Nat} {xs : List Int} {s : Tm} (h : TimerAt T w b ma mc xs s) (hg : w.grownBy w' (some r)) (h1 : b ≠ r) (h2 : blk ma ≠ r) : TimerAt T w' b ma mc xs s :=
  ⟨h.row.grown hg h1, h.mem.grown hg h2, h.ne⟩
end Go.Syn
