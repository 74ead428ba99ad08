/- What the table of types says of a program. No program in sight. -/
import Derived.Test.YtadgaefmoobcoaaEng2
namespace Go.Eng
set_option linter.unusedVariables false
set_option linter.unusedSimpArgs false

/-- A value that a zero may be. -/
def plainZ : Value → Bool
  | .int _ n => n == 0
  | .bool b => !b
  | .pointer none => true
  | .slice none 0 0 => true
  | .string s => s.size == 0
  | .map none => true
  | .nilIface => true
  | .nilFunc => true
  | .float _ b => b == 0
  | .complex _ a b => a == 0 && b == 0
  | _ => false
def mkTD (P : Program) (t : Nat) : TD :=
  match P.underlying t with
  | some (.int k) => .int k
  | some .bool => .bool
  | some .string => .str
  | some (.pointer e) => .ptr e
  | some (.slice e) => .slice e
  | some (.struct fs) => .struct (fs.toList.map fun f => (f.offset, f.type, P.cellsOf f.type))
  | some (.array n e) => .array n e (P.cellsOf e)
  | some (.tuple ts) => .tuple ts.toList
  | none => .bad
  | _ => .other
def mkTI (P : Program) (t : Nat) : TI :=
  ⟨mkTD P t, P.cellsOf t, match (P.info? t).bind (·.zero) with
    | some v => if v.cells.size ≤ 64 && v.cells.all plainZ then some (v.cells.toList.map toLV) else none
    | none => none⟩
def fnOk (P : Program) (f : Nat) : Bool :=
  match P.funcs[f]? with
  | some fn => fn.body.isSome && fn.name != "runtime.NumGoroutine"
  | none => false

/-- The row says of the type what is so. -/
def zeroB (z : Option Value) (l : Option (List LV)) : Bool :=
  match l with
  | none => true
  | some ls => match z with
    | some v => sameL (v.cells.toList.map toLV) ls
    | none => false
def tdB (P : Program) (t : Nat) (d : TD) : Bool :=
  match d, P.underlying t with
  | .int k, some (.int k') => decide (k = k')
  | .bool, some .bool => true
  | .str, some .string => true
  | .ptr e, some (.pointer e') => e == e' && P.cellsOf e != 0
  | .slice e, some (.slice e') => e == e'
  | .struct fs, some (.struct gs) => fs == (gs.toList.map fun f => (f.offset, f.type, P.cellsOf f.type)) && gs.all (fun f => f.name != "_" && (P.info? f.type).isSome) && !P.stoodInHeld t && !P.eqGuardType P.depth t
  | .array n e sz, some (.array m e') => n == m && e == e' && sz == P.cellsOf e && (P.info? e).isSome && !P.eqGuardType P.depth t
  | .tuple ts, some (.tuple us) => ts == us.toList
  | .bad, _ => true
  | .other, some d => match d with | .struct _ | .array _ _ => false | _ => true
  | _, _ => false
def tiB (P : Program) (t : Nat) (i : TI) : Bool :=
  match P.info? t with
  | some inf => inf.size == i.size && zeroB inf.zero i.zero && tdB P t i.d
  | none => false
def ttB (P : Program) : Nat → List TI → Bool
  | _, [] => true
  | t, i :: r => tiB P t i && ttB P (t + 1) r
def fnsB (P : Program) (l : List Nat) : Bool := l.all (fnOk P)
structure TabOk (P : Program) (T : Tab) : Prop where
  tt : ∀ t i, T.tt[t]? = some i → tiB P t i = true
  fns : ∀ f, f ∈ T.fns → fnOk P f = true
  mixed : P.follows .mixedOrders = true
theorem tt_of_B' {P : Program} : ∀ (l : List TI) (n : Nat), ttB P n l = true → ∀ t i, l[t]? = some i → tiB P (n + t) i = true
  | [], _, _, _, _, h => by simp at h
  | x :: r, n, h, t, i, hi => by
    simp only [ttB, Bool.and_eq_true] at h
    cases t with
    | zero => simp at hi; subst hi; simpa using h.1
    | succ t =>
      have := tt_of_B' r (n + 1) h.2 t i (by simpa using hi)
      rwa [show n + 1 + t = n + (t + 1) by omega] at this
theorem tt_of_B {P : Program} {l : List TI} (h : ttB P 0 l = true) (t : Nat) (i : TI) (hi : l[t]? = some i) : tiB P t i = true := by
  simpa using tt_of_B' l 0 h t i hi
theorem fns_of_B {P : Program} {l : List Nat} (h : fnsB P l = true) (f : Nat) (hf : f ∈ l) : fnOk P f = true := by
  unfold fnsB at h; exact List.all_eq_true.1 h f hf
end Go.Eng
