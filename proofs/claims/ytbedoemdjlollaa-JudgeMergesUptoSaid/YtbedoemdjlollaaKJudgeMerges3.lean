/- Part 3 of the texts of a proof about the given program: what the statement's proof needs of them. -/
import Derived.Test.YtbedoemdjlollaaKJudgeMerges2
namespace Go.Eng
set_option linter.unusedVariables false

inductive Tree where
  | done (v : SV) (m : Mem)
  | fail (s : String) (n : Nat)
  | br (b : BE) (t f : Tree)
  | need (p : Need) (t : Tree)
  | call (f : Nat) (args : List SV) (m : Mem) (r : SV) (m' : Mem) (t : Tree)
  | gen (op : Op) (ty : Nat) (ps : List (Nat × SV)) (m : Mem) (r : Option SV) (m' : Mem) (t : Tree)
  | ld (cur : Bool) (l : LV) (cs : List LV) (m m' : Mem) (t : Tree)
  | ldq (l : LV) (cs : List LV) (m m' : Mem) (t : Tree)
  | loop (key : Nat) (es : Vec) (m m' : Mem) (t : Tree)
  | again (key : Nat) (es : Vec) (m : Mem)
  | join (key : Nat) (m m' : Mem) (a b : Tree)
  | par (a b : Tree)

inductive Ex where
  | normal
  | exit (id : Nat)
  | ret
  | goto (l : Nat)

inductive GRes where
  | yes
  | no
  | ask (b : BE)
  | bad
def gd (ops : Array Oper) (st : St) : Option (Nat × Bool) → GRes
  | none => .yes
  | some (j, want) =>
    match (ops[j]?).bind (·.dst) with
    | none => .no
    | some d =>
      match st.fr[d]? with
      | some (.lf (.bool (.lit b))) => if b = want then .yes else .no
      | some (.lf (.bool be)) => .ask be
      | some (.tup []) => .no
      | _ => .bad

def opsWrites : List Oper → List Nat
  | [] => []
  | o :: r => match o.dst with | some d => d :: opsWrites r | none => opsWrites r
def writes : Code → List Nat
  | .region _ ops _ => opsWrites ops.toList
  | .seq a b => writes a ++ writes b
  | .cond _ a b => writes a ++ writes b
  | .block _ c => writes c
  | .loop c => writes c
  | .scope c => writes c
  | _ => []
def tame : Code → Bool
  | .region .. => true
  | .seq a b => tame a && tame b
  | .cond _ a b => tame a && tame b
  | .block _ c => tame c
  | .loop c => tame c
  | .scope c => tame c
  | .skip | .exit _ | .ret | .label _ | .goto _ => true
  | _ => false
def firstRegion : Code → Option Nat
  | .region id _ _ => some id
  | .seq a b => (firstRegion a).or (firstRegion b)
  | .cond _ a b => (firstRegion a).or (firstRegion b)
  | .block _ c => firstRegion c
  | .loop c => firstRegion c
  | .scope c => firstRegion c
  | _ => none

def takeL (m : Nat) (k : K) (l : LV) : Option Vec :=
  match k, l with
  | .int k, .int k' e => if k = k' then some { Vec.nil with i := [e] } else none
  | .bool, .bool b => some { Vec.nil with b := [b] }
  | .val, l => if l.isOne then some { Vec.nil with v := [l] } else none
  | .sl, .sl a n c => some { Vec.nil with a := [.var a], n := [n, c] }
  | .sl, .nilsl => some { Vec.nil with a := [.nil], n := [.lit 0, .lit 0] }
  | .sl, .nsl nm off n c => some { Vec.nil with a := [.nm nm off], n := [.lit n, .lit c] }
  | .is (.ptr n o), .ptr n' o' => if n = n' ∧ o = o' ∧ Nat.blt n m = true then some Vec.nil else none
  | _, _ => none
def takeLs (m : Nat) : List K → List LV → Option Vec
  | [], [] => some Vec.nil
  | k :: ks, l :: ls =>
    match takeL m k l, takeLs m ks ls with
    | some x, some y => some (x.app y)
    | _, _ => none
  | _, _ => none
def forgetAll (fr : List SV) : List Nat → List SV
  | [] => fr
  | d :: r => forgetAll (fr.set d .dead) r
def slotsNew (st : St) : List (Nat × K) → St
  | [] => st
  | (s, k) :: r => slotsNew { st with fr := st.fr.set s (.lf (k.mk st.c).1), c := (k.mk st.c).2 } r
def slotsTake (m : Nat) (st : St) : List (Nat × K) → Option Vec
  | [] => some Vec.nil
  | (s, k) :: r =>
    match st.fr[s]? with
    | some (.lf l) =>
      match takeL m k l, slotsTake m st r with
      | some x, some y => some (x.app y)
      | _, _ => none
    | _ => none
def blkKs (st : St) (n : Nat) : List K :=
  match st.hp[n]? with
  | some (_, cs) => cs.map kOf
  | none => []
def blksNew (base st : St) : List Nat → St
  | [] => st
  | n :: r =>
    match st.hp[n]? with
    | some (t, _) => blksNew base { st with hp := st.hp.set n (t, (mkKs st.c (blkKs base n)).1), c := (mkKs st.c (blkKs base n)).2 } r
    | none => blksNew base st r
def blksTake (base st : St) : List Nat → Option Vec
  | [] => some Vec.nil
  | n :: r =>
    match st.hp[n]? with
    | some (_, cs) =>
      match takeLs base.hp.length (blkKs base n) cs, blksTake base st r with
      | some x, some y => some (x.app y)
      | _, _ => none
    | none => none
def havoc (st : St) (la : LAnn) (ws : List Nat) : St :=
  blksNew st (slotsNew { st with fr := forgetAll st.fr ws } la.slots) la.blks
def inSlots (s : Nat) : List (Nat × K) → Bool
  | [] => false
  | (t, _) :: r => t == s || inSlots s r
def frSame (la : LAnn) : Nat → List SV → List SV → Bool
  | _, [], [] => true
  | j, x :: r, p :: q => (match p with | .dead => true | p => inSlots j la.slots || x.same p) && frSame la (j + 1) r q
  | _, _, _ => false
def hpSame (la : LAnn) : Nat → List (Nat × List LV) → List (Nat × List LV) → Bool
  | _, _, [] => true
  | j, x :: r, p :: q => x.1 == p.1 && (la.blks.contains j || sameL x.2 p.2) && hpSame la (j + 1) r q
  | _, _, _ => false
def meet (base pst st : St) (la : LAnn) : Option Vec :=
  if frSame la 0 st.fr pst.fr && hpSame la 0 st.hp pst.hp && st.fits && la.blks.all (fun n => Nat.blt n base.hp.length) then
    match slotsTake base.hp.length st la.slots, blksTake base st la.blks with
    | some x, some y => some (x.app y)
    | _, _ => none
  else none

def zKs (T : Tab) (t : Nat) : List K := ((T.zero t).getD []).map kOf
def joinNew (T : Tab) (p : St) : List (Nat × Nat) → Option St
  | [] => some p
  | (s, t) :: r => if p.fits then joinNew T ⟨p.fr.set s (.lf (.ptr p.hp.length 0)), p.hp ++ [(t, (mkKs p.c (zKs T t)).1)], (mkKs p.c (zKs T t)).2⟩ r else none
def newsTake (T : Tab) (m : Nat) (st : St) : List Nat → List (Nat × Nat) → Option Vec
  | _, [] => some Vec.nil
  | used, (s, t) :: r =>
    match st.fr[s]? with
    | some (.lf (.ptr n 0)) =>
      if Nat.ble m n && !used.contains n then
        match st.hp[n]? with
        | some (t', cs) =>
          if t' = t then
            match takeLs m (zKs T t) cs, newsTake T m st (n :: used) r with
            | some x, some y => some (x.app y)
            | _, _ => none
          else none
        | none => none
      else none
    | _ => none
def meetN (T : Tab) (base pst st : St) (la : LAnn) (nw : List (Nat × Nat)) : Option Vec :=
  match meet base pst st la, newsTake T base.hp.length st [] nw with
  | some x, some y => some (x.app y)
  | _, _ => none

def Tab.isCur (T : Tab) (l : LV) : Bool :=
  match l with
  | .adr a _ _ _ => T.ann.cur.contains a
  | _ => true

def opEnv (st : St) : List Operand → List (Nat × SV)
  | [] => []
  | .tmp t :: r => match st.get t with | some v => (t, v) :: opEnv st r | none => opEnv st r
  | _ :: r => opEnv st r
def stepT (T : Tab) (o : Oper) (st : St) (chk : List (Nat × List LV) → Bool) (br : BE → Tree) (next : St → Tree) (i : Nat) : Tree :=
  match pureS T o st with
  | .val v => next (st.put o.dst v)
  | .need p v => .need p (next (st.put o.dst v))
  | .br b => br b
  | .no =>
    match heapS T o st with
    | .val v => next (st.put o.dst v)
    | .new v st' => if st.fits && chk st'.hp then next (st'.put o.dst v) else .fail "fits" i
    | .skip st' => if chk st'.hp then next (st'.put o.dst (.tup [])) else .fail "wr" i
    | .no =>
      match effS T o st with
      | .call g args v st' => if chk st'.hp then .call g args st.mem v st'.mem (next (st'.put o.dst v)) else .fail "wr" i
      | .ld l t cs v st' => .ld (T.isCur l) l cs st.mem st'.mem (next (st'.put o.dst v))
      | .gen r st' => if chk st'.hp then .gen o.op o.type (opEnv st o.op.operands.toList) st.mem r st'.mem (next (st'.put o.dst (r.getD (.tup [])))) else .fail "wr" i
      | .no => .fail "op" i
def runOps (T : Tab) : Nat → Array Oper → List Oper → St → (St → Tree) → Tree
  | 0, _, _, _, _ => .fail "fuel" 0
  | _ + 1, _, [], st, k => k st
  | n + 1, ops, o :: r, st, k =>
    match gd ops st o.guard with
    | .no => runOps T n ops r (st.put o.dst (.tup [])) k
    | .ask b => .br b (runOps T n ops (o :: r) (st.assume b true) k) (runOps T n ops (o :: r) (st.assume b false) k)
    | .bad => .fail "guard" (r.length)
    | .yes => stepT T o st (fun _ => true) (fun b => .br b (runOps T n ops (o :: r) (st.assume b true) k) (runOps T n ops (o :: r) (st.assume b false) k)) (fun st' => runOps T n ops r st' k) r.length

inductive QRes where
  | val (v : SV)
  | need (p : Need) (v : SV)
  | no
def quietS (T : Tab) (wr : List Nat) (st0 : St) (ops : Array Oper) (o : Oper) (st : St) : QRes :=
  match gd ops st o.guard with
  | .no => .val (.tup [])
  | .yes =>
    match pureS T o st with
    | .val v => .val v
    | .need p v => .need p v
    | .br _ => .no
    | .no =>
      match o.op with
      | .load t x =>
        match st.evL x with
        | some (.ptr n off) =>
          match st0.hp[n]?, st.hp[n]? with
          | some a, some b => if !wr.contains n && a.1 == b.1 && sameL a.2 b.2 then (match loadS T t st n off with | some v => .val v | none => .no) else .no
          | _, _ => .no
        | _ => .no
      | _ => .no
  | _ => .no
def firstQuiet (T : Tab) (wr : List Nat) (st0 : St) (ops : Array Oper) (listed : Array Bool) (st : St) : List Nat → Option (Nat × Option Need × Option Nat × SV)
  | [] => none
  | i :: r =>
    match ops[i]? with
    | none => none
    | some o =>
      if Region.free .any ops listed i then
        match quietS T wr st0 ops o st with
        | .val v => some (i, none, o.dst, v)
        | .need p v => some (i, some p, o.dst, v)
        | .no => firstQuiet T wr st0 ops listed st r
      else firstQuiet T wr st0 ops listed st r
def keptS (wr : List Nat) : Nat → List (Nat × List LV) → List (Nat × List LV) → Bool
  | _, [], _ => true
  | j, x :: r, p :: q => (wr.contains j || (x.1 == p.1 && sameL x.2 p.2)) && keptS wr (j + 1) r q
  | _, _ :: _, [] => false
def firstAsk (ops : Array Oper) (st : St) : List Nat → Option BE
  | [] => none
  | i :: r =>
    match (ops[i]?).map fun o => gd ops st o.guard with
    | some (.ask b) => some b
    | _ => firstAsk ops st r
def parAll : List Tree → Tree
  | [] => .fail "par" 0
  | [t] => t
  | t :: r => .par t (parAll r)
def runD (T : Tab) (wr : List Nat) (st0 : St) (ops : Array Oper) : Nat → Array Bool → St → (St → Tree) → Tree
  | 0, _, _, _ => .fail "fuel" 1
  | n + 1, listed, st, k =>
    match Region.ready .any ops listed with
    | [] => k st
    | i0 :: rs0 =>
      match firstQuiet T wr st0 ops listed st (i0 :: rs0) with
      | some (i, none, d, v) => runD T wr st0 ops n (listed.setIfInBounds i true) (st.put d v) k
      | some (i, some p, d, v) => .need p (runD T wr st0 ops n (listed.setIfInBounds i true) (st.put d v) k)
      | none =>
        match firstAsk ops st (i0 :: rs0) with
        | some b => .br b (runD T wr st0 ops n listed (st.assume b true) k) (runD T wr st0 ops n listed (st.assume b false) k)
        | none =>
          parAll ((i0 :: rs0).map fun i =>
            match ops[i]? with
            | none => .fail "ready" i
            | some o =>
              match gd ops st o.guard with
              | .yes => stepT T o st (fun hp => keptS wr 0 st0.hp hp) (fun b => .br b (runD T wr st0 ops n listed (st.assume b true) k) (runD T wr st0 ops n listed (st.assume b false) k)) (fun st' => runD T wr st0 ops n (listed.setIfInBounds i true) st' k) i
              | .no => runD T wr st0 ops n (listed.setIfInBounds i true) (st.put o.dst (.tup [])) k
              | _ => .fail "guard" i)

def leafMems : Tree → List Mem
  | .done _ m => [m]
  | .br _ t f => leafMems t ++ leafMems f
  | .need _ t => leafMems t
  | .call _ _ _ _ _ t => leafMems t
  | .gen _ _ _ _ _ _ t => leafMems t
  | .ld _ _ _ _ _ t => leafMems t
  | .ldq _ _ _ _ t => leafMems t
  | _ => []
def changedIn : Nat → List (Nat × List LV) → List (Nat × List LV) → List Nat
  | j, x :: r, p :: q => if sameL x.2 p.2 then changedIn (j + 1) r q else j :: changedIn (j + 1) r q
  | _, _, _ => []
def autoWr (T : Tab) (ops : Array Oper) (st : St) : List Nat :=
  (leafMems (runOps T 400 ops ops.toList st fun st' => .done (.tup []) st'.mem)).flatMap fun m => changedIn 0 st.hp m.hp

def iter (body : St → (St → Tree) → Tree) : Nat → St → Tree
  | 0, _ => .fail "iter" 0
  | m + 1, st => body st (iter body m)
def stepL (T : Tab) (o : Oper) (st : St) (chk : List (Nat × List LV) → Bool) (br : BE → Tree) (next : St → Tree) (i : Nat) : Tree :=
  match pureS T o st with
  | .val v => next (st.put o.dst v)
  | .need p v => .need p (next (st.put o.dst v))
  | .br b => br b
  | .no =>
    match heapS T o st with
    | .val v => next (st.put o.dst v)
    | .new v st' => if st.fits && chk st'.hp then next (st'.put o.dst v) else .fail "fits" i
    | .skip st' => if chk st'.hp then next (st'.put o.dst (.tup [])) else .fail "wr" i
    | .no => .fail "op" i
def firstLoad (T : Tab) (ops : Array Oper) (listed : Array Bool) (st : St) : List Nat → Option (Nat × LV × List LV × SV × St × Option Nat)
  | [] => none
  | i :: r =>
    match ops[i]? with
    | none => none
    | some o =>
      if Region.free .any ops listed i then
        match gd ops st o.guard with
        | .yes =>
          match effS T o st with
          | .ld l _ cs v st' => some (i, l, cs, v, st', o.dst)
          | _ => firstLoad T ops listed st r
        | _ => firstLoad T ops listed st r
      else firstLoad T ops listed st r
def runL (T : Tab) (wr : List Nat) (st0 : St) (ops : Array Oper) : Nat → Array Bool → St → (St → Tree) → Tree
  | 0, _, _, _ => .fail "fuel" 4
  | n + 1, listed, st, k =>
    match Region.ready .any ops listed with
    | [] => k st
    | i0 :: rs0 =>
      match firstQuiet T wr st0 ops listed st (i0 :: rs0) with
      | some (i, none, d, v) => runL T wr st0 ops n (listed.setIfInBounds i true) (st.put d v) k
      | some (i, some p, d, v) => .need p (runL T wr st0 ops n (listed.setIfInBounds i true) (st.put d v) k)
      | none =>
        match firstLoad T ops listed st (i0 :: rs0) with
        | some (i, l, cs, v, st', d) =>
          if T.isCur l then .ldq l cs st.mem st'.mem (runL T wr st0 ops n (listed.setIfInBounds i true) (st'.put d v) k)
          else .ld false l cs st.mem st'.mem (runL T wr st0 ops n (listed.setIfInBounds i true) (st'.put d v) k)
        | none =>
        match firstAsk ops st (i0 :: rs0) with
        | some b => .br b (runL T wr st0 ops n listed (st.assume b true) k) (runL T wr st0 ops n listed (st.assume b false) k)
        | none =>
          parAll ((i0 :: rs0).map fun i =>
            match ops[i]? with
            | none => .fail "ready" i
            | some o =>
              match gd ops st o.guard with
              | .yes => stepL T o st (fun hp => keptS wr 0 st0.hp hp) (fun b => .br b (runL T wr st0 ops n listed (st.assume b true) k) (runL T wr st0 ops n listed (st.assume b false) k)) (fun st' => runL T wr st0 ops n (listed.setIfInBounds i true) st' k) i
              | .no => runL T wr st0 ops n (listed.setIfInBounds i true) (st.put o.dst (.tup [])) k
              | _ => .fail "guard" i)
def runQ (T : Tab) : Nat → Array Oper → List Oper → St → (St → Tree) → Tree
  | 0, _, _, _, _ => .fail "fuel" 3
  | _ + 1, _, [], st, k => k st
  | n + 1, ops, o :: r, st, k =>
    match gd ops st o.guard with
    | .no => runQ T n ops r (st.put o.dst (.tup [])) k
    | .ask b => .br b (runQ T n ops (o :: r) (st.assume b true) k) (runQ T n ops (o :: r) (st.assume b false) k)
    | .bad => .fail "guard" (r.length)
    | .yes =>
      match pureS T o st with
      | .val v => runQ T n ops r (st.put o.dst v) k
      | .need p v => .need p (runQ T n ops r (st.put o.dst v) k)
      | .br b => .br b (runQ T n ops (o :: r) (st.assume b true) k) (runQ T n ops (o :: r) (st.assume b false) k)
      | .no =>
        match heapS T o st with
        | .val v => runQ T n ops r (st.put o.dst v) k
        | .new _ _ => .fail "quiet" (r.length)
        | .skip _ => .fail "quiet" (r.length)
        | .no =>
          match effS T o st with
          | .ld l _ cs v st' => .ld (T.isCur l) l cs st.mem st'.mem (runQ T n ops r (st'.put o.dst v) k)
          | _ => .fail "quiet" (r.length)
def jumps (go : Nat → St → (Ex → St → Tree) → Tree) (k : Ex → St → Tree) : Nat → Ex → St → Tree
  | 0, .goto l, _ => .fail "goto" l
  | m + 1, .goto l, st => go l st (jumps go k m)
  | _, e, st => k e st
def run (T : Tab) : Nat → List Nat → Code → St → (Ex → St → Tree) → Tree
  | 0, _, _, _, _ => .fail "fuel" 2
  | n + 1, ks, c, st, k =>
    match c with
    | .skip => k .normal st
    | .label _ => k .normal st
    | .region id ops draw =>
      if draw then
        (if T.ann.quiet.contains id && Region.lexB .any ops then runQ T 400 ops ops.toList st (k .normal) else
         if T.ann.loads.contains id && (st.fits && Region.noSelect ops) then runL T ((lkup id T.ann.wr).getD (autoWr T ops st)) st ops 400 (Array.replicate ops.size false) st (k .normal) else
         if st.fits && Region.noSelect ops then runD (T.plain id) ((lkup id T.ann.wr).getD (autoWr T ops st)) st ops 400 (Array.replicate ops.size false) st (k .normal) else .fail "region" id)
      else runOps T 400 ops ops.toList st (k .normal)
    | .seq a b =>
      match (firstRegion b).bind fun key => (lkup key T.ann.joins).map fun la => (key, la) with
      | none => run T n ks a st fun e st' => match e with | .normal => run T n ks b st' k | e => k e st'
      | some (key, la) =>
        if tame a && st.fits && !ks.contains key then
          let pst := havoc st la (writes a)
          match lkup key T.ann.news with
          | none =>
            Tree.join key st.mem pst.mem
              (run T n (key :: ks) a st fun e st' => match e with | .normal => (match meet st pst st' la with | some es => .again key es st'.mem | none => .fail "join" key) | e => k e st')
              (run T n ks b pst k)
          | some nw =>
            match joinNew T pst nw with
            | none => .fail "news" key
            | some qst =>
              Tree.join key st.mem qst.mem
                (run T n (key :: ks) a st fun e st' => match e with | .normal => (match meetN T st pst st' la nw with | some es => .again key es st'.mem | none => .fail "join" key) | e => k e st')
                (run T n ks b qst k)
        else .fail "tame" key
    | .cond x a b =>
      match st.evL x with
      | some (.bool (.lit r)) => run T n ks (if r then a else b) st k
      | some (.bool be) => .br be (run T n ks a (st.assume be true) k) (run T n ks b (st.assume be false) k)
      | _ => .fail "cond" 0
    | .block id a => run T n ks a st fun e st' => match e with | .exit j => if j = id then k .normal st' else k (.exit j) st' | e => k e st'
    | .loop a =>
      match (firstRegion a).bind fun key => (lkup key T.ann.loops).map fun la => (key, la) with
      | none =>
        if T.ann.unroll.contains ((firstRegion a).getD 0) then
          iter (fun st next => run T n ks a st fun e st' => match e with | .normal => next st' | e => k e st') T.ann.rounds st
        else .fail "loop" ((firstRegion a).getD 0)
      | some (key, la) =>
        if tame a && st.fits && !ks.contains key then
          let pst := havoc st la (writes a)
          match meet st pst st la with
          | none => .fail "begin" key
          | some es0 =>
            Tree.loop key es0 st.mem pst.mem
              (run T n (key :: ks) a pst fun e st' => match e with | .normal => (match meet st pst st' la with | some es => .again key es st'.mem | none => .fail "round" key) | e => k e st')
        else .fail "tame" key
    | .exit id => k (.exit id) st
    | .ret => k .ret st
    | .scope a =>
      match (firstRegion a).bind fun key => (lkup key T.ann.gotos).map fun la => (key, la) with
      | none => run T n ks a st (jumps (fun l st' k' => match findLabel a l with | some rest => run T n ks rest st' k' | none => .fail "label" l) k 3)
      | some (key, la) =>
        match a with
        | .seq p (.seq (.label l) r) =>
          if (findLabel p l).isNone then
            run T n ks p st fun e st1 =>
              match e with
              | .normal =>
                if tame r && st1.fits && !ks.contains key then
                  let pst := havoc st1 la (writes r)
                  match meet st1 pst st1 la with
                  | none => .fail "begin" key
                  | some es0 =>
                    Tree.loop key es0 st1.mem pst.mem
                      (run T n (key :: ks) r pst fun e st' => match e with | .goto l2 => (if l2 = l then (match meet st1 pst st' la with | some es => .again key es st'.mem | none => .fail "round" key) else .fail "goto" l2) | e => k e st')
                else .fail "tame" key
              | .goto l2 => .fail "goto" l2
              | e => k e st1
          else .fail "label" l
        | _ => .fail "scope" key
    | .goto l => k (.goto l) st
    | _ => .fail "code" 0

def resOne (T : Tab) (st : St) : ResultVar → Option (Bool × List LV)
  | .tmp t =>
    match st.get t with
    | some (.lf l) => some (false, [l])
    | some (.agg cs) => some (true, cs)
    | _ => none
  | .cell a t =>
    match st.get a with
    | some (.lf (.ptr n off)) =>
      match loadS T t st n off with
      | some (.lf l) => some (false, [l])
      | some (.agg cs) => some (true, cs)
      | _ => none
    | _ => none
def resAll (T : Tab) (st : St) : List ResultVar → Option (List (Bool × List LV))
  | [] => some []
  | r :: rs =>
    match resOne T st r, resAll T st rs with
    | some x, some xs => some (x :: xs)
    | _, _ => none
def resS (T : Tab) (st : St) (rs : List ResultVar) : Option SV :=
  match resAll T st rs with
  | some [(true, cs)] => some (.agg cs)
  | some [(false, [l])] => some (.lf l)
  | some xs => some (.tup xs)
  | none => none
def runF (T : Tab) (c : Code) (rs : List ResultVar) (st : St) : Tree :=
  run T 2000 [] c st fun e st' =>
    match e with
    | .exit j => .fail "exit" j
    | .goto l => .fail "goto" l
    | _ => match resS T st' rs with | some v => .done v st'.mem | none => .fail "results" 0
def entry (n : Nat) (args : List SV) (hp : List (Nat × List LV)) (c : Cnt) : St :=
  ⟨args ++ List.replicate (n - args.length) (.tup []), hp, c⟩
end Go.Eng

namespace Go.Eng
set_option linter.unusedVariables false
set_option linter.unusedSimpArgs false

def fnOk (P : Program) (f : Nat) : Bool :=
  match P.funcs[f]? with
  | some fn => fn.body.isSome && fn.name != "runtime.NumGoroutine"
  | none => false

def zeroB (z : Option Value) (l : Option (List LV)) : Bool :=
  match l with
  | none => true
  | some ls => match z with
    | some v => sameL (v.cells.toList.map toLV) ls
    | none => false
def tdB (P : Program) (t : Nat) (d : TD) : Bool :=
  match d, P.underlying t with
  | .int k, some (.int k') => decide (k = k')
  | .bool, some .bool => true
  | .str, some .string => true
  | .ptr e, some (.pointer e') => e == e' && P.cellsOf e != 0
  | .slice e, some (.slice e') => e == e'
  | .struct fs, some (.struct gs) => fs == (gs.toList.map fun f => (f.offset, f.type, P.cellsOf f.type)) && gs.all (fun f => f.name != "_" && (P.info? f.type).isSome) && !P.stoodInHeld t && !P.eqGuardType P.depth t
  | .array n e sz, some (.array m e') => n == m && e == e' && sz == P.cellsOf e && (P.info? e).isSome && !P.eqGuardType P.depth t
  | .tuple ts, some (.tuple us) => ts == us.toList
  | .bad, _ => true
  | .other, some d => match d with | .struct _ | .array _ _ => false | _ => true
  | _, _ => false
def tiB (P : Program) (t : Nat) (i : TI) : Bool :=
  match P.info? t with
  | some inf => inf.size == i.size && zeroB inf.zero i.zero && tdB P t i.d
  | none => false
def ttB (P : Program) : Nat → List TI → Bool
  | _, [] => true
  | t, i :: r => tiB P t i && ttB P (t + 1) r
def fnsB (P : Program) (l : List Nat) : Bool := l.all (fnOk P)
structure TabOk (P : Program) (T : Tab) : Prop where
  tt : ∀ t i, T.tt[t]? = some i → tiB P t i = true
  fns : ∀ f, f ∈ T.fns → fnOk P f = true
  mixed : P.follows .mixedOrders = true
theorem TabOk.plain {P : Program} {T : Tab} (h : TabOk P T) (id : Nat) : TabOk P (T.plain id) := by
  unfold Tab.plain
  split
  · exact ⟨h.tt, h.fns, h.mixed⟩
  · exact h
theorem tt_of_B' {P : Program} : ∀ (l : List TI) (n : Nat), ttB P n l = true → ∀ t i, l[t]? = some i → tiB P (n + t) i = true
  | [], _, _, _, _, h => by simp at h
  | x :: r, n, h, t, i, hi => by
    simp only [ttB, Bool.and_eq_true] at h
    cases t with
    | zero => simp at hi; subst hi; simpa using h.1
    | succ t =>
      have := tt_of_B' r (n + 1) h.2 t i (by simpa using hi)
      rwa [show n + 1 + t = n + (t + 1) by omega] at this
theorem tt_of_B {P : Program} {l : List TI} (h : ttB P 0 l = true) (t : Nat) (i : TI) (hi : l[t]? = some i) : tiB P t i = true := by
  simpa using tt_of_B' l 0 h t i hi
theorem fns_of_B {P : Program} {l : List Nat} (h : fnsB P l = true) (f : Nat) (hf : f ∈ l) : fnOk P f = true := by
  unfold fnsB at h; exact List.all_eq_true.1 h f hf
end Go.Eng
