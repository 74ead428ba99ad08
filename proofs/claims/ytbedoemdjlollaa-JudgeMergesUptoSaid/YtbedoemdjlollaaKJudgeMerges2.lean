/- Part 2 of the texts of a proof about the given program: what the statement's proof needs of them. -/
import Derived.OrdersHeld
import Derived.Scope
import Derived.WalkKit
import Derived.Laws.AppendOwn
import Derived.Below
import Derived.Lib.Hide
import Derived.Test.YtbedoemdjlollaaKJudgeMerges1
namespace Go.Eng
set_option linter.unusedVariables false

inductive IE where
  | lit (n : Int)
  | var (i : Nat)
  | nat (i : Nat)
  | op (f : BinOp) (k : IntKind) (a b : IE)
  | conv (k : IntKind) (a : IE)
  | mx (a b : IE)
  | mn (a b : IE)
  deriving DecidableEq
inductive BE where
  | lit (b : Bool)
  | var (i : Nat)
  | cmp (f : BinOp) (a b : IE)
  | eqb (a b : BE)
  | not (a : BE)
  | and (a b : BE)
  | anone (i : Nat)
  deriving DecidableEq
inductive NE where
  | lit (n : Nat)
  | var (i : Nat)
  deriving DecidableEq
inductive LV where
  | int (k : IntKind) (e : IE)
  | bool (b : BE)
  | val (i : Nat)
  | ptr (n off : Nat)
  | nilp
  | sl (a : Nat) (n c : NE)
  | nsl (nm off len cap : Nat)
  | nilsl
  | adr (a : Nat) (e : IE) (sz off : Nat)
  | pix (n off sz : Nat) (e : IE)
  | fnv (f : Nat) (caps : List (Nat × Nat))
  | cst (v : Value)
def LV.isOne : LV → Bool
  | .cst (.agg _) => false
  | .cst (.tuple _) => false
  | _ => true
inductive SV where
  | lf (l : LV)
  | agg (cs : List LV)
  | tup (vs : List (Bool × List LV))
  | nxt (b : BE) (vs : List (Bool × List LV))
  | dead
structure Env where
  i : List Int
  b : List Bool
  v : List Value
  n : List Nat
  a : List (Option Addr)
structure Cnt where
  i : Nat
  b : Nat
  v : Nat
  n : Nat
  a : Nat
  deriving DecidableEq
def Env.cnt (ρ : Env) : Cnt := ⟨ρ.i.length, ρ.b.length, ρ.v.length, ρ.n.length, ρ.a.length⟩

def ifn (f : BinOp) (k : IntKind) (x y : Int) : Int :=
  match f with
  | .add => k.wrap (x + y)
  | .sub => k.wrap (x - y)
  | .mul => k.wrap (x * y)
  | .quo => k.wrap (x.tdiv y)
  | .rem => x.tmod y
  | .and => k.wrap (BitVec.ofInt k.bits x &&& BitVec.ofInt k.bits y).toNat
  | .or => k.wrap (BitVec.ofInt k.bits x ||| BitVec.ofInt k.bits y).toNat
  | .xor => k.wrap (BitVec.ofInt k.bits x ^^^ BitVec.ofInt k.bits y).toNat
  | .andNot => k.wrap (BitVec.ofInt k.bits x &&& ~~~BitVec.ofInt k.bits y).toNat
  | .shl => k.wrap (x * 2 ^ min y.toNat k.bits)
  | .shr => x.fdiv (2 ^ min y.toNat k.bits)
  | _ => 0
def cfn (f : BinOp) (x y : Int) : Bool :=
  match f with
  | .eql => x == y
  | .neq => x != y
  | .lss => decide (x < y)
  | .leq => decide (x ≤ y)
  | .gtr => decide (x > y)
  | .geq => decide (x ≥ y)
  | _ => false
def IE.den (ρ : Env) : IE → Int
  | .lit n => n
  | .var i => ρ.i.getD i 0
  | .nat i => ((ρ.n.getD i 0 : Nat) : Int)
  | .op f k a b => ifn f k (a.den ρ) (b.den ρ)
  | .conv k a => k.wrap (a.den ρ)
  | .mx a b => max (a.den ρ) (b.den ρ)
  | .mn a b => min (a.den ρ) (b.den ρ)
def BE.den (ρ : Env) : BE → Bool
  | .lit b => b
  | .var i => ρ.b.getD i false
  | .cmp f a b => cfn f (a.den ρ) (b.den ρ)
  | .eqb a b => (a.den ρ) == (b.den ρ)
  | .not a => !(a.den ρ)
  | .and a b => (a.den ρ) && (b.den ρ)
  | .anone i => (ρ.a.getD i none).isNone
def NE.den (ρ : Env) : NE → Nat
  | .lit n => n
  | .var i => ρ.n.getD i 0
def idAt (ids : List Nat) (n : Nat) : Nat := ids.getD n 0
def LV.den (ρ : Env) (ids : List Nat) : LV → Value
  | .int k e => .int k (e.den ρ)
  | .bool b => .bool (b.den ρ)
  | .val i => ρ.v.getD i undef
  | .ptr n off => .pointer (some ⟨idAt ids n, off, none⟩)
  | .nilp => .pointer none
  | .sl a n c => .slice (ρ.a.getD a none) (n.den ρ) (c.den ρ)
  | .nsl nm off len cap => .slice (some ⟨idAt ids nm, off, none⟩) len cap
  | .nilsl => .slice none 0 0
  | .adr a e sz off => .pointer (some ((((ρ.a.getD a none).getD ⟨0, 0, none⟩).add ((e.den ρ).toNat * sz)).add off))
  | .pix n off sz e => .pointer (some ⟨idAt ids n, off + (e.den ρ).toNat * sz, none⟩)
  | .fnv f caps => .func (.func f) #[] (caps.map fun c => Value.pointer (some ⟨idAt ids c.1, c.2, none⟩)).toArray
  | .cst v => v
def cellsDen (ρ : Env) (ids : List Nat) (cs : List LV) : List Value := cs.map (LV.den ρ ids)
def compDen (ρ : Env) (ids : List Nat) (c : Bool × List LV) : Value :=
  match c with
  | (true, cs) => .agg (cellsDen ρ ids cs).toArray
  | (false, c :: _) => c.den ρ ids
  | (false, []) => undef
def SV.den (ρ : Env) (ids : List Nat) : SV → Value
  | .lf l => l.den ρ ids
  | .agg cs => .agg (cellsDen ρ ids cs).toArray
  | .tup vs => .tuple (vs.map (compDen ρ ids)).toArray
  | .nxt b vs => .tuple (if b.den ρ then .bool true :: vs.map (compDen ρ ids) else [.bool false]).toArray
  | .dead => undef
def toLV (v : Value) : LV :=
  match v with
  | .int k n => .int k (.lit n)
  | .bool b => .bool (.lit b)
  | .pointer none => .nilp
  | .slice none 0 0 => .nilsl
  | v => .cst v
def toSV (v : Value) : SV :=
  match v with
  | .tuple ⟨[]⟩ => .tup []
  | .tuple _ => .dead
  | .agg cs => .agg (cs.toList.map toLV)
  | v => .lf (toLV v)

def small (n : Int) : Bool := decide (-1000000000000000 < n) && decide (n < 1000000000000000)
def IE.mk (f : BinOp) (k : IntKind) (a b : IE) : IE :=
  match a, b with
  | .lit x, .lit y =>
    match f, k with
    | .add, .i64 => if small (x + y) then .lit (x + y) else .op f k a b
    | .sub, .i64 => if small (x - y) then .lit (x - y) else .op f k a b
    | .and, .i64 => .lit (ifn .and .i64 x y)
    | _, _ => .op f k a b
  | _, _ => .op f k a b
def BE.mkCmp (f : BinOp) (a b : IE) : BE :=
  match a, b with
  | .lit x, .lit y => .lit (cfn f x y)
  | _, _ => .cmp f a b
def BE.mkNot : BE → BE
  | .lit b => .lit !b
  | .not a => a
  | a => .not a
def BE.mkAnd (a b : BE) : BE :=
  match a, b with
  | .lit true, b => b
  | .lit false, _ => .lit false
  | a, .lit true => a
  | a, b => .and a b
def BE.mkEq (a b : BE) : BE :=
  match a, b with
  | .lit true, b => b
  | .lit false, b => b.mkNot
  | a, .lit true => a
  | a, .lit false => a.mkNot
  | a, b => .eqb a b

inductive TD where
  | int (k : IntKind)
  | bool
  | str
  | ptr (e : Nat)
  | slice (e : Nat)
  | struct (fs : List (Nat × Nat × Nat))
  | array (n e sz : Nat)
  | tuple (ts : List Nat)
  | other
  | bad
structure TI where
  d : TD
  size : Nat
  zero : Option (List LV)
def TD.isAgg : TD → Bool
  | .struct _ | .array .. => true
  | _ => false

structure St where
  fr : List SV
  hp : List (Nat × List LV)
  c : Cnt
structure Mem where
  hp : List (Nat × List LV)
  c : Cnt
def St.mem (st : St) : Mem := ⟨st.hp, st.c⟩
def St.get (st : St) (t : Nat) : Option SV :=
  match st.fr[t]? with
  | some .dead => none
  | x => x
def St.ev (st : St) : Operand → Option SV
  | .tmp t => st.get t
  | .const v => match toSV v with | .dead => none | s => some s
  | .func f => some (.lf (.fnv f []))
  | .global _ => none
def St.evL (st : St) (x : Operand) : Option LV :=
  match st.ev x with
  | some (.lf l) => some l
  | _ => none
def St.put (st : St) (d : Option Nat) (v : SV) : St :=
  match d with
  | some d => { st with fr := st.fr.set d v }
  | none => st
def SV.cells : SV → Option (List LV)
  | .lf l => if l.isOne then some [l] else none
  | .agg cs => some cs
  | _ => none
def assumeSV (b : BE) (r : Bool) : SV → SV
  | .lf (.bool x) => if x = b then .lf (.bool (.lit r)) else if x = .not b then .lf (.bool (.lit !r)) else .lf (.bool x)
  | s => s
def St.assume (st : St) (b : BE) (r : Bool) : St := { st with fr := st.fr.map (assumeSV b r) }

def IE.fits (c : Cnt) : IE → Bool
  | .lit _ => true
  | .var i => Nat.blt i c.i
  | .nat i => Nat.blt i c.n
  | .op _ _ a b => a.fits c && b.fits c
  | .conv _ a => a.fits c
  | .mx a b => a.fits c && b.fits c
  | .mn a b => a.fits c && b.fits c
def BE.fits (c : Cnt) : BE → Bool
  | .lit _ => true
  | .var i => Nat.blt i c.b
  | .cmp _ a b => a.fits c && b.fits c
  | .eqb a b => a.fits c && b.fits c
  | .not a => a.fits c
  | .and a b => a.fits c && b.fits c
  | .anone i => Nat.blt i c.a
def NE.fits (c : Cnt) : NE → Bool
  | .lit _ => true
  | .var i => Nat.blt i c.n
def LV.fits (c : Cnt) (m : Nat) : LV → Bool
  | .int _ e => e.fits c
  | .bool b => b.fits c
  | .val i => Nat.blt i c.v
  | .ptr n _ => Nat.blt n m
  | .nilp => true
  | .sl a n k => Nat.blt a c.a && n.fits c && k.fits c
  | .nsl nm _ _ _ => Nat.blt nm m
  | .nilsl => true
  | .adr a e _ _ => Nat.blt a c.a && e.fits c
  | .pix n _ _ e => Nat.blt n m && e.fits c
  | .fnv _ caps => caps.all fun x => Nat.blt x.1 m
  | .cst _ => true
def SV.fits (c : Cnt) (m : Nat) : SV → Bool
  | .lf l => l.fits c m
  | .agg cs => cs.all (LV.fits c m)
  | .tup vs => vs.all fun x => x.2.all (LV.fits c m)
  | .nxt b vs => b.fits c && vs.all fun x => x.2.all (LV.fits c m)
  | .dead => true
def hpFits (c : Cnt) (m : Nat) (hp : List (Nat × List LV)) : Bool := hp.all fun b => b.2.all (LV.fits c m)
def St.fits (st : St) : Bool := st.fr.all (SV.fits st.c st.hp.length) && hpFits st.c st.hp.length st.hp

def sameV : Value → Value → Bool
  | .nilFunc, .nilFunc => true
  | .nilIface, .nilIface => true
  | .map none, .map none => true
  | .string a, .string b => decide (a = b)
  | .complex k a b, .complex k' a' b' => decide (k = k' ∧ a = a' ∧ b = b')
  | .float k a, .float k' a' => decide (k = k' ∧ a = a')
  | _, _ => false
def LV.same : LV → LV → Bool
  | .int k e, .int k' e' => decide (k = k' ∧ e = e')
  | .bool b, .bool b' => decide (b = b')
  | .val i, .val i' => decide (i = i')
  | .ptr n o, .ptr n' o' => decide (n = n' ∧ o = o')
  | .nilp, .nilp => true
  | .sl a n c, .sl a' n' c' => decide (a = a' ∧ n = n' ∧ c = c')
  | .nsl a b c d, .nsl a' b' c' d' => decide (a = a' ∧ b = b' ∧ c = c' ∧ d = d')
  | .nilsl, .nilsl => true
  | .adr a e s o, .adr a' e' s' o' => decide (a = a' ∧ e = e' ∧ s = s' ∧ o = o')
  | .pix n o s e, .pix n' o' s' e' => decide (n = n' ∧ o = o' ∧ s = s' ∧ e = e')
  | .fnv f c, .fnv f' c' => decide (f = f' ∧ c = c')
  | .cst v, .cst v' => sameV v v'
  | _, _ => false
def sameL : List LV → List LV → Bool
  | [], [] => true
  | a :: r, b :: s => a.same b && sameL r s
  | _, _ => false
def sameT : List (Bool × List LV) → List (Bool × List LV) → Bool
  | [], [] => true
  | a :: r, b :: s => (a.1 == b.1) && sameL a.2 b.2 && sameT r s
  | _, _ => false
def SV.same : SV → SV → Bool
  | .lf a, .lf b => a.same b
  | .agg a, .agg b => sameL a b
  | .tup a, .tup b => sameT a b
  | _, _ => false
inductive AE where
  | nil
  | var (i : Nat)
  | nm (n off : Nat)
structure Vec where
  i : List IE
  b : List BE
  v : List LV
  n : List NE
  a : List AE
structure Vals where
  i : List Int
  b : List Bool
  v : List Value
  n : List Nat
  a : List (Option Addr)
def Env.add (ρ : Env) (x : Vals) : Env := ⟨ρ.i ++ x.i, ρ.b ++ x.b, ρ.v ++ x.v, ρ.n ++ x.n, ρ.a ++ x.a⟩
def Cnt.add (c d : Cnt) : Cnt := ⟨c.i + d.i, c.b + d.b, c.v + d.v, c.n + d.n, c.a + d.a⟩
def Vals.cnt (x : Vals) : Cnt := ⟨x.i.length, x.b.length, x.v.length, x.n.length, x.a.length⟩
def AE.den (ρ : Env) (ids : List Nat) : AE → Option Addr
  | .nil => none
  | .var i => ρ.a.getD i none
  | .nm n off => some ⟨idAt ids n, off, none⟩
def Vec.den (ρ : Env) (ids : List Nat) (x : Vec) : Vals := ⟨x.i.map (IE.den ρ), x.b.map (BE.den ρ), x.v.map (LV.den ρ ids), x.n.map (NE.den ρ), x.a.map (AE.den ρ ids)⟩
def Vec.nil : Vec := ⟨[], [], [], [], []⟩
def Vec.app (x y : Vec) : Vec := ⟨x.i ++ y.i, x.b ++ y.b, x.v ++ y.v, x.n ++ y.n, x.a ++ y.a⟩
inductive K where
  | int (k : IntKind)
  | bool
  | val
  | sl
  | is (l : LV)
  | new (t : Nat)
def K.mk (c : Cnt) : K → LV × Cnt
  | .int k => (.int k (.var c.i), { c with i := c.i + 1 })
  | .bool => (.bool (.var c.b), { c with b := c.b + 1 })
  | .val => (.val c.v, { c with v := c.v + 1 })
  | .sl => (.sl c.a (.var c.n) (.var (c.n + 1)), { c with a := c.a + 1, n := c.n + 2 })
  | .is l => (l, c)
  | .new _ => (.nilp, c)
def mkKs (c : Cnt) : List K → List LV × Cnt
  | [] => ([], c)
  | k :: r => ((k.mk c).1 :: (mkKs (k.mk c).2 r).1, (mkKs (k.mk c).2 r).2)

inductive RC where
  | lf (k : K)
  | agg (ks : List K)
  | newp (t : Nat) (ks : List K)
inductive RPat where
  | one (c : RC)
  | tup (cs : List RC)
  | nxt (cs : List RC)
structure LAnn where
  slots : List (Nat × K)
  blks : List Nat
structure Ann where
  ret : List (Nat × RPat) := []
  touch : List (Nat × List Nat) := []
  gen : List (Nat × RPat) := []
  loops : List (Nat × LAnn) := []
  joins : List (Nat × LAnn) := []
  wr : List (Nat × List Nat) := []
  cur : List Nat := []
  unroll : List Nat := []
  rounds : Nat := 40
  quiet : List Nat := []
  loads : List Nat := []
  lits : Bool := false
  gotos : List (Nat × LAnn) := []
  news : List (Nat × List (Nat × Nat)) := []
  plain : List Nat := []
def lkup {α : Type} (k : Nat) : List (Nat × α) → Option α
  | [] => none
  | (j, x) :: r => if j = k then some x else lkup k r
structure Tab where
  tt : List TI
  fns : List Nat
  ann : Ann
def Tab.plain (T : Tab) (id : Nat) : Tab := if T.ann.plain.contains id then ⟨T.tt, T.fns, { T.ann with lits := false }⟩ else T
def Tab.ti (T : Tab) (t : Nat) : Option TI := T.tt[t]?
def Tab.size (T : Tab) (t : Nat) : Option Nat := (T.ti t).map (·.size)
def Tab.zero (T : Tab) (t : Nat) : Option (List LV) := (T.ti t).bind (·.zero)

inductive Need where
  | inb (a : Nat) (e n : IE)
  | nz (e : IE)
  | nn (e : IE)
  | inr (e n : IE)
def Need.den (ρ : Env) : Need → Prop
  | .inb a e n => (ρ.a.getD a none).isSome = true ∧ 0 ≤ e.den ρ ∧ e.den ρ < n.den ρ
  | .nz e => e.den ρ ≠ 0
  | .nn e => 0 ≤ e.den ρ
  | .inr e n => 0 ≤ e.den ρ ∧ e.den ρ < n.den ρ
inductive PRes where
  | val (v : SV)
  | need (p : Need) (v : SV)
  | br (b : BE)
  | no
def isCmp : BinOp → Bool
  | .eql | .neq | .lss | .leq | .gtr | .geq => true
  | _ => false
def sub (cs : List LV) (off n : Nat) : List LV := (cs.drop off).take n
def eqS (T : Tab) : Nat → Nat → List LV → List LV → Option BE
  | 0, _, _, _ => none
  | n + 1, t, xs, ys =>
    match T.ti t with
    | none => none
    | some i =>
      match i.d with
      | .int _ =>
        match xs, ys with
        | [.int k a], [.int k' b] => if k = k' then some (BE.mkCmp .eql a b) else none
        | _, _ => none
      | .bool =>
        match xs, ys with
        | [.bool a], [.bool b] => some (BE.mkEq a b)
        | _, _ => none
      | .struct fs => fs.foldr (fun f r =>
          match eqS T n f.2.1 (sub xs f.1 f.2.2) (sub ys f.1 f.2.2), r with
          | some a, some b => some (BE.mkAnd a b)
          | _, _ => none) (some (.lit true))
      | .array k e sz => (List.range k).foldr (fun j r =>
          match eqS T n e (sub xs (j * sz) sz) (sub ys (j * sz) sz), r with
          | some a, some b => some (BE.mkAnd a b)
          | _, _ => none) (some (.lit true))
      | _ => none
def IE.isLit : IE → Option Int
  | .lit n => some n
  | _ => none
def divS (f : BinOp) (k : IntKind) (a b : IE) : PRes :=
  match b.isLit with
  | some n => if n = 0 then .no else .val (.lf (.int k (.op f k a b)))
  | none => .need (.nz b) (.lf (.int k (.op f k a b)))
def shS (f : BinOp) (k : IntKind) (a b : IE) : PRes :=
  match b.isLit with
  | some n => if n < 0 then .no else .val (.lf (.int k (.op f k a b)))
  | none => .need (.nn b) (.lf (.int k (.op f k a b)))
def isShift : BinOp → Bool
  | .shl | .shr => true
  | _ => false
def isDiv : BinOp → Bool
  | .quo | .rem => true
  | _ => false
def intS (f : BinOp) (k : IntKind) (a : IE) (k' : IntKind) (b : IE) : PRes :=
  if isShift f then shS f k a b
  else if k = k' then
    if isCmp f then .val (.lf (.bool (BE.mkCmp f a b)))
    else if isDiv f then divS f k a b
    else .val (.lf (.int k (IE.mk f k a b)))
  else .no
def eqAns (f : BinOp) (b : BE) : PRes :=
  match f with
  | .eql => .val (.lf (.bool b))
  | .neq => .val (.lf (.bool b.mkNot))
  | _ => .no
def TD.isPtr : TD → Bool
  | .ptr _ => true
  | _ => false
def TD.isSlice : TD → Bool
  | .slice _ => true
  | _ => false
def TD.isBool : TD → Bool
  | .bool => true
  | _ => false
def leafEq (f : BinOp) (d : TD) (x y : LV) : PRes :=
  match x, y with
  | .bool a, .bool b => if d.isBool then eqAns f (BE.mkEq a b) else .no
  | .ptr _ _, .nilp => if d.isPtr then eqAns f (.lit false) else .no
  | .nilp, .ptr _ _ => if d.isPtr then eqAns f (.lit false) else .no
  | .nilp, .nilp => if d.isPtr then eqAns f (.lit true) else .no
  | .sl a _ _, .nilsl => if d.isSlice then eqAns f (.anone a) else .no
  | .nsl _ _ _ _, .nilsl => if d.isSlice then eqAns f (.lit false) else .no
  | .nilsl, .nilsl => if d.isSlice then eqAns f (.lit true) else .no
  | _, _ => .no
def binS (T : Tab) (f : BinOp) (t : Nat) (x y : SV) : PRes :=
  match x, y with
  | .lf a, .lf b =>
    match a, b with
    | .int k a, .int k' b => intS f k a k' b
    | a, b => match T.ti t with | some i => leafEq f i.d a b | none => .no
  | .agg xs, .agg ys =>
    match T.ti t with
    | none => .no
    | some i => if i.d.isAgg then (match eqS T 20 t xs ys with | some b => eqAns f b | none => .no) else .no
  | _, _ => .no
def unS (f : UnOp) (x : SV) : PRes :=
  match f, x with
  | .not, .lf (.bool b) => .val (.lf (.bool b.mkNot))
  | .neg, .lf (.int k a) => .val (.lf (.int k (IE.mk .sub k (.lit 0) a)))
  | .xor, .lf (.int k a) => .val (.lf (.int k (.op .xor k (.lit (if k.signed then -1 else k.max)) a)))
  | _, _ => .no
def convS (T : Tab) (src dst : Nat) (x : SV) : PRes :=
  match T.ti src, T.ti dst, x with
  | some ⟨.int _, _, _⟩, some ⟨.int k, _, _⟩, .lf (.int _ e) =>
    match k, e with
    | .i64, .lit n => if small n then .val (.lf (.int .i64 (.lit n))) else .val (.lf (.int .i64 (.conv .i64 (.lit n))))
    | k, e => .val (.lf (.int k (.conv k e)))
  | _, _, _ => .no
def partS (T : Tab) (t : Nat) (cs : List LV) (off : Nat) : Option SV :=
  match T.ti t with
  | none => none
  | some i =>
    if i.d.isAgg then (if off + i.size ≤ cs.length then some (.agg (sub cs off i.size)) else none)
    else match i.d with
      | .bad => none
      | _ => (cs[off]?).map .lf
def fieldS (T : Tab) (t : Nat) (x : SV) (f : Nat) : PRes :=
  match T.ti t, x with
  | some ⟨.struct fs, _, _⟩, .agg cs =>
    match fs[f]? with
    | some (off, ft, _) => match partS T ft cs off with | some v => .val v | none => .no
    | none => .no
  | _, _ => .no
def fieldAddrS (T : Tab) (t : Nat) (x : SV) (f : Nat) : PRes :=
  match T.ti t with
  | some ⟨.struct fs, _, _⟩ =>
    match fs[f]? with
    | some (off, _, sz) =>
      if sz = 0 then .no else
      match x with
      | .lf (.ptr n o) => .val (.lf (.ptr n (o + off)))
      | .lf (.adr a e s o) => .val (.lf (.adr a e s (o + off)))
      | .lf (.pix n o s e) => .val (.lf (.pix n (o + off) s e))
      | _ => .no
    | none => .no
  | _ => .no
def NE.toIE : NE → IE
  | .lit n => .lit n
  | .var i => .nat i
def indexAddrS (T : Tab) (t : Nat) (x ix : SV) : PRes :=
  match T.ti t with
  | some ⟨.slice e, _, _⟩ =>
    match T.size e with
    | none => .no
    | some sz =>
      match x, ix with
      | .lf (.sl a n _), .lf (.int _ i) => .need (.inb a i n.toIE) (.lf (.adr a i sz 0))
      | .lf (.nsl nm off len _), .lf (.int _ (.lit i)) => if 0 ≤ i ∧ i < len then .val (.lf (.ptr nm (off + i.toNat * sz))) else .no
      | .lf (.nsl nm off len _), .lf (.int _ i) => .need (.inr i (.lit len)) (.lf (.pix nm off sz i))
      | _, _ => .no
  | some ⟨.array n e sz, _, _⟩ =>
    match x, ix with
    | .lf (.ptr nm off), .lf (.int _ (.lit i)) => if 0 ≤ i ∧ i < n then .val (.lf (.ptr nm (off + i.toNat * sz))) else .no
    | .lf (.ptr nm off), .lf (.int _ i) => .need (.inr i (.lit n)) (.lf (.pix nm off sz i))
    | _, _ => .no
  | _ => .no
def indexS (T : Tab) (t : Nat) (x ix : SV) : PRes :=
  match T.ti t, x, ix with
  | some ⟨.array n e sz, _, _⟩, .agg cs, .lf (.int _ (.lit i)) =>
    if 0 ≤ i ∧ i < n then (match partS T e cs (i.toNat * sz) with | some v => .val v | none => .no) else .no
  | _, _, _ => .no
def extractS (x : SV) (ix : Nat) : PRes :=
  match x with
  | .tup vs =>
    match vs[ix]? with
    | some (true, cs) => .val (.agg cs)
    | some (false, [c]) => .val (.lf c)
    | _ => .no
  | .nxt b _ => if ix = 0 then .val (.lf (.bool b)) else .no
  | _ => .no
def splice (cs : List LV) (off : Nat) (xs : List LV) : List LV := cs.take off ++ xs ++ cs.drop (off + xs.length)
def fillS (place : Nat → Option (Nat × Nat)) (cells : List LV) : List (Nat × SV) → Option (List LV)
  | [] => some cells
  | (i, v) :: rest =>
    match place i, v.cells with
    | some (off, size), some xs => if xs.length = size ∧ off + size ≤ cells.length then fillS place (splice cells off xs) rest else none
    | _, _ => none
def evAll (st : St) : List (Nat × Operand) → Option (List (Nat × SV))
  | [] => some []
  | (i, x) :: r =>
    match st.ev x, evAll st r with
    | some v, some vs => some ((i, v) :: vs)
    | _, _ => none
def evList (st : St) : List Operand → Option (List SV)
  | [] => some []
  | x :: r =>
    match st.ev x, evList st r with
    | some v, some vs => some (v :: vs)
    | _, _ => none
def buildS (T : Tab) (t : Nat) (ps : List (Nat × SV)) : PRes :=
  match T.ti t, T.zero t with
  | some ⟨.struct fs, _, _⟩, some z =>
    match fillS (fun i => (fs[i]?).map fun f => (f.1, f.2.2)) z ps with
    | some cs => .val (.agg cs)
    | none => .no
  | some ⟨.array _ _ sz, _, _⟩, some z =>
    match fillS (fun i => some (i * sz, sz)) z ps with
    | some cs => .val (.agg cs)
    | none => .no
  | _, _ => .no
def capsOf : List SV → Option (List (Nat × Nat))
  | [] => some []
  | .lf (.ptr n o) :: r => (capsOf r).map ((n, o) :: ·)
  | _ :: _ => none
def lenS (T : Tab) (t : Nat) (x : SV) : PRes :=
  match T.ti t, x with
  | some ⟨.slice _, _, _⟩, .lf (.sl _ n _) => .val (.lf (.int .i64 n.toIE))
  | some ⟨.slice _, _, _⟩, .lf (.nsl _ _ n _) => .val (.lf (.int .i64 (.lit n)))
  | some ⟨.slice _, _, _⟩, .lf .nilsl => .val (.lf (.int .i64 (.lit 0)))
  | some ⟨.array n _ _, _, _⟩, _ => .val (.lf (.int .i64 (.lit n)))
  | _, _ => .no
def pureS (T : Tab) (o : Oper) (st : St) : PRes :=
  match o.op with
  | .move x | .assign x => match st.ev x with | some v => .val v | none => .no
  | .pick c a b =>
    match st.evL c with
    | some (.bool (.lit r)) => match st.ev (if r then a else b) with | some v => .val v | none => .no
    | some (.bool be) => .br be
    | _ => .no
  | .binOp f t x y _ => match st.ev x, st.ev y with | some a, some b => binS T f t a b | _, _ => .no
  | .unOp f _ x => match st.ev x with | some a => unS f a | none => .no
  | .convert s d x => match st.ev x with | some a => convS T s d a | none => .no
  | .field t x f => match st.ev x with | some a => fieldS T t a f | none => .no
  | .fieldAddr t x f => match st.ev x with | some a => fieldAddrS T t a f | none => .no
  | .indexAddr t x i => match st.ev x, st.ev i with | some a, some b => indexAddrS T t a b | _, _ => .no
  | .index t x i => match st.ev x, st.ev i with | some a, some b => indexS T t a b | _, _ => .no
  | .extract x i => match st.ev x with | some a => extractS a i | none => .no
  | .build t ps => match evAll st ps.toList with | some vs => buildS T t vs | none => .no
  | .nilCheck x => match st.ev x with
    | some (.lf (.ptr n o)) => .val (.lf (.ptr n o))
    | some (.lf (.fnv f c)) => .val (.lf (.fnv f c))
    | some (.lf (.adr a e z f)) => .val (.lf (.adr a e z f))
    | _ => .no
  | .makeFunc (.func f) ⟨[]⟩ caps => match (evList st caps.toList).bind capsOf with | some cs => .val (.lf (.fnv f cs)) | none => .no
  | .call { callee := .builtin .max, args := ⟨[x, y]⟩, argTypes := _ } => match st.evL x, st.evL y with | some (.int k a), some (.int k' b) => if k = k' then .val (.lf (.int k (.mx a b))) else .no | _, _ => .no
  | .call { callee := .builtin .min, args := ⟨[x, y]⟩, argTypes := _ } => match st.evL x, st.evL y with | some (.int k a), some (.int k' b) => if k = k' then .val (.lf (.int k (.mn a b))) else .no | _, _ => .no
  | .call { callee := .builtin .len, args := ⟨[x]⟩, argTypes := ⟨[t]⟩ } => match st.ev x with | some a => lenS T t a | none => .no
  | _ => .no

inductive HRes where
  | val (v : SV)
  | new (v : SV) (st : St)
  | skip (st : St)
  | no
def St.new (st : St) (t : Nat) (cs : List LV) : St := { st with hp := st.hp ++ [(t, cs)] }
def loadS (T : Tab) (t : Nat) (st : St) (n off : Nat) : Option SV :=
  match T.ti t, st.hp[n]? with
  | some i, some (_, cs) =>
    if i.d.isAgg then (if off + i.size ≤ cs.length then some (.agg (sub cs off i.size)) else none)
    else match i.d with
      | .bad => none
      | _ => (cs[off]?).map .lf
  | _, _ => none
def repL : Nat → List LV → List LV
  | 0, _ => []
  | n + 1, z => z ++ repL n z
def heapS (T : Tab) (o : Oper) (st : St) : HRes :=
  match o.op with
  | .load t x =>
    match st.evL x with
    | some (.ptr n off) => match loadS T t st n off with | some v => .val v | none => .no
    | _ => .no
  | .alloc t => match T.zero t with | some z => .new (.lf (.ptr st.hp.length 0)) (st.new t z) | none => .no
  | .box t x => match (st.ev x).bind SV.cells with | some cs => .new (.lf (.ptr st.hp.length 0)) (st.new t cs) | none => .no
  | .store t x v =>
    match st.evL x, (st.ev v).bind SV.cells, T.size t with
    | some (.ptr n off), some xs, some sz =>
      match st.hp[n]? with
      | some (ty, cs) => if xs.length = sz ∧ off + sz ≤ cs.length ∧ xs.all (fun l => l.isOne && l.fits st.c st.hp.length) = true then .skip { st with hp := st.hp.set n (ty, splice cs off xs) } else .no
      | none => .no
    | _, _, _ => .no
  | .buildSlice t len ps =>
    match T.ti t, evAll st ps.toList with
    | some ⟨.slice e, _, _⟩, some vs =>
      match T.size e, T.zero e with
      | some sz, some z =>
        if z.length = sz ∧ 0 < sz ∧ len * sz ≤ 4096 ∧ T.ann.lits = false then
          match fillS (fun i => some (i * sz, sz)) (repL len z) vs with
          | some cs => .new (.lf (.nsl st.hp.length 0 len len)) (st.new e cs)
          | none => .no
        else .no
      | _, _ => .no
    | _, _ => .no
  | _ => .no

def kOf : LV → K
  | .int k _ => .int k
  | .bool _ => .bool
  | .sl .. => .sl
  | .nilsl => .sl
  | .nsl .. => .sl
  | .ptr n o => .is (.ptr n o)
  | _ => .val
def rcOf (T : Tab) (t : Nat) : RC :=
  match T.ti t with
  | some ⟨.int k, _, _⟩ => .lf (.int k)
  | some ⟨.bool, _, _⟩ => .lf .bool
  | some ⟨.slice _, _, _⟩ => .lf .sl
  | some ⟨.struct _, _, some z⟩ => .agg (z.map kOf)
  | some ⟨.array .., _, some z⟩ => .agg (z.map kOf)
  | _ => .lf .val
def RC.mk (st : St) : RC → (Bool × List LV) × St
  | .lf k => let (l, c) := k.mk st.c; ((false, [l]), { st with c := c })
  | .agg ks => let (ls, c) := mkKs st.c ks; ((true, ls), { st with c := c })
  | .newp t ks => let (ls, c) := mkKs st.c ks; ((false, [.ptr st.hp.length 0]), { st with c := c, hp := st.hp ++ [(t, ls)] })
def mkRCs (st : St) : List RC → List (Bool × List LV) × St
  | [] => ([], st)
  | r :: rs => let (x, st1) := r.mk st; let (xs, st2) := mkRCs st1 rs; (x :: xs, st2)
def RPat.mk (st : St) : RPat → SV × St
  | .one r => let (x, st1) := r.mk st; ((match x with | (true, cs) => .agg cs | (false, [c]) => .lf c | _ => .dead), st1)
  | .tup rs => let (xs, st1) := mkRCs st rs; (.tup xs, st1)
  | .nxt rs => let (xs, st1) := mkRCs { st with c := (K.bool.mk st.c).2 } rs; (.nxt (.var st.c.b) xs, st1)
def touchOne (st : St) (n : Nat) : St :=
  match st.hp[n]? with
  | some (t, cs) => let (ls, c) := mkKs st.c (cs.map kOf); { st with c := c, hp := st.hp.set n (t, ls) }
  | none => st
def touchAll (st : St) : List Nat → St
  | [] => st
  | n :: r => touchAll (touchOne st n) r
def ptrsAt (st : St) (args : List SV) : List Nat → List Nat
  | [] => []
  | j :: r => if Nat.blt j 100 then (match args[j]? with | some (.lf (.ptr n _)) => n :: ptrsAt st args r | _ => ptrsAt st args r)
    else match args[j - 100]? with | some (.lf (.ptr n _)) => (match st.hp[n]? with | some (_, .ptr n2 _ :: _) => n2 :: ptrsAt st args r | _ => ptrsAt st args r) | _ => ptrsAt st args r
def patOf (T : Tab) (t : Nat) : RPat :=
  match T.ti t with
  | some ⟨.tuple ts, _, _⟩ => .tup (ts.map (rcOf T))
  | _ => .one (rcOf T t)
def patG (T : Tab) (o : Oper) : RPat :=
  match o.dst.bind fun d => lkup d T.ann.gen with
  | some p => p
  | none => match o.op with
    | .range .. => .one (.lf .val)
    | _ => patOf T o.type
inductive ERes where
  | call (f : Nat) (args : List SV) (r : SV) (st : St)
  | ld (l : LV) (t : Nat) (cs : List LV) (r : SV) (st : St)
  | gen (r : Option SV) (st : St)
  | no
def fnArgs (st : St) (c : Go.Call) : Option (Nat × List SV) :=
  match c.callee with
  | .value f =>
    match st.evL f, evList st c.args.toList with
    | some (.fnv g caps), some args => some (g, args ++ caps.map fun x => SV.lf (.ptr x.1 x.2))
    | _, _ => none
  | _ => none
def operandsOk (st : St) (o : Oper) : Bool := o.op.operands.toList.all fun x => (st.ev x).isSome
def genVal : Op → Bool
  | .lookup .. | .mapEntry .. | .makeMap .. | .range .. | .next .. | .entry .. | .slice .. | .convert .. | .binOp .. | .index .. | .makeSlice .. | .makeInterface .. | .typeAssert .. | .indexAddr .. | .buildSlice .. => true
  | .call { callee := .builtin _, .. } => true
  | _ => false
def genSkip : Op → Bool
  | .mapUpdate .. | .insert .. | .entryStore .. | .store .. => true
  | _ => false
def effCall (T : Tab) (ty : Nat) (st : St) (g : Nat) (args : List SV) : ERes :=
  if T.fns.contains g && st.fits then
    let st1 := touchAll st (ptrsAt st args ((lkup g T.ann.touch).getD []))
    .call g args (RPat.mk st1 ((lkup g T.ann.ret).getD (patOf T ty))).1 (RPat.mk st1 ((lkup g T.ann.ret).getD (patOf T ty))).2
  else .no
def effLd (T : Tab) (t : Nat) (st : St) (l : LV) : ERes :=
  match T.ti t with
  | some ⟨.bad, _, _⟩ => .no
  | some i =>
    if st.fits then
      if i.d.isAgg then
        match i.zero with
        | some z => if z.length = i.size then .ld l t (mkKs st.c (z.map kOf)).1 (.agg (mkKs st.c (z.map kOf)).1) { st with c := (mkKs st.c (z.map kOf)).2 } else .no
        | none => .no
      else
        match rcOf T t with
        | .lf k => .ld l t [(k.mk st.c).1] (.lf (k.mk st.c).1) { st with c := (k.mk st.c).2 }
        | _ => .no
    else .no
  | none => .no
def touchSt (st : St) : Op → St
  | .store _ x _ =>
    match st.evL x with
    | some (.pix n _ _ _) => touchOne st n
    | _ => st
  | _ => st
def genExt (T : Tab) : Op → Bool
  | .call { callee := .value (.func g), .. } => !T.fns.contains g
  | _ => false
def effS (T : Tab) (o : Oper) (st : St) : ERes :=
  if genVal o.op || genExt T o.op then
    (if operandsOk st o && st.fits then .gen (some (RPat.mk st (patG T o)).1) (RPat.mk st (patG T o)).2 else .no)
  else if genSkip o.op then
    (if operandsOk st o && st.fits then .gen none (touchSt st o.op) else .no)
  else
  match o.op with
  | .call c =>
    match fnArgs st c with
    | some (g, args) => effCall T o.type st g args
    | none => .no
  | .load t x =>
    match st.evL x with
    | some (.adr a e sz off) => effLd T t st (.adr a e sz off)
    | some (.pix n off sz e) => effLd T t st (.pix n off sz e)
    | _ => .no
  | _ => .no
end Go.Eng
