/- The proposer as plain data: what it holds, what its methods do. No program in sight. -/
import Derived.Test.YtlgpjjgkdpmidaaEng36
import Derived.Test.YtlgpjjgkdpmidaaAl
import Derived.Test.YtlgpjjgkdpmidaaVa
namespace Go.Eng
open Go.RowKit Go.Syn Go.MapKept Go.Proofs.Ytlgpjjgkdpmidaa
set_option linter.unusedVariables false
set_option linter.unusedSimpArgs false
/-- A vote. -/
structure Vo (α : Type) where
  s : Int
  r : Int
  n : Int
  v : α
def Vo.map {α β : Type} (f : α → β) (x : Vo α) : Vo β := ⟨x.s, x.r, x.n, f x.v⟩
structure Pr (α : Type) where
  me : Int
  window : Int
  phase : Int
  r : Int
  n : Int
  frm : Int
  next : Int
  mem : List Int
  said : List Int
  fresh : List Int
  best : List (Int × Vo α)
  out : List (Int × α)
  queue : List α
  stop : Bool
section
variable {α β : Type}
def Pr.map (f : α → β) (D : Pr α) : Pr β := ⟨D.me, D.window, D.phase, D.r, D.n, D.frm, D.next, D.mem, D.said, D.fresh, mmap (Vo.map f) D.best, mmap f D.out, D.queue.map f, D.stop⟩
def Pr.new (me window : Int) (mem : List Int) : Pr α := ⟨me, max 1 (min window 16), 0, 0, 0, 0, 0, mem, [], [], [], [], [], false⟩
/-- Everything is let go but the ballot. -/
def Pr.down (D : Pr α) : Pr α := { D with phase := 0, frm := 0, next := 0, said := [], fresh := [], best := [], out := [], queue := [], stop := false }
def Pr.begin (D : Pr α) (r n frm : Int) : Pr α := { D.down with phase := 1, r := r, n := n, frm := frm }
/-- A value is asked for. -/
def Pr.ask (kd : α → Int) (D : Pr α) (s : Int) (v : α) : Pr α := { D with out := mput D.out s v, fresh := D.fresh ++ [s], stop := D.stop || kd v == 2 }
def Pr.told (D : Pr α) (s r n : Int) (v : α) : Pr α := { D with best := mput D.best s ⟨s, r, n, v⟩ }
def Pr.say (D : Pr α) (node : Int) : Pr α := { D with said := D.said ++ [node] }
def topOf (best : List (Int × Vo α)) (x : Int) : Int := best.foldl (fun a p => max a (p.1 + 1)) x
def Pr.bestV (z : α) (D : Pr α) (s : Int) : α := ((mlk D.best s).map Vo.v).getD z
/-- The slots from one on are asked for. -/
def Pr.askTo (kd : α → Int) (z : α) : Nat → Int → Pr α → Pr α
  | 0, _, D => D
  | k + 1, s, D => Pr.askTo kd z k (s + 1) (D.ask kd s (D.bestV z s))
def Pr.lead (kd : α → Int) (z : α) (D : Pr α) : Pr α :=
  let D1 := { D with phase := 2, next := topOf D.best D.frm }
  { Pr.askTo kd z (D1.next - D1.frm).toNat D1.frm D1 with best := [] }
/-- The queue is worked off, as far as the window reaches. -/
def Pr.fill (kd : α → Int) (ex : Int) : Nat → Pr α → Pr α
  | 0, D => D
  | k + 1, D => match D.queue with
    | [] => D
    | v :: q => if D.next - D.window ≤ ex ∧ D.next ≤ 1099511627776 then Pr.fill kd ex k { D.ask kd D.next v with queue := q, next := D.next + 1 } else D
def Pr.msgs (D : Pr α) : List (Int × α) := D.fresh.filterMap fun s => (mlk D.out s).map fun v => (s, v)
def Pr.goes (kd : α → Int) (ex : Int) (D : Pr α) : Pr α × List (Int × α) :=
  if D.phase = 2 then let D1 := Pr.fill kd ex D.queue.length D; ({ D1 with fresh := [] }, D1.msgs) else (D, [])
def Pr.decided (D : Pr α) (s : Int) : Pr α := { D with out := mdel D.out s }
def Pr.top (D : Pr α) : Int := if D.phase = 2 then D.next - 1 else 0
theorem map_ask (f : α → β) (kd : β → Int) (D : Pr α) (s : Int) (v : α) : (D.ask (fun x => kd (f x)) s v).map f = (D.map f).ask kd s (f v) := by
  unfold Pr.ask Pr.map
  simp only [mput_map]
theorem map_bestV (f : α → β) (z : α) (D : Pr α) (s : Int) : f (D.bestV z s) = (D.map f).bestV (f z) s := by
  unfold Pr.bestV Pr.map
  simp only [mlk_map]
  cases mlk D.best s <;> rfl
theorem map_askTo (f : α → β) (kd : β → Int) (z : α) : ∀ (k : Nat) (s : Int) (D : Pr α), (Pr.askTo (fun x => kd (f x)) z k s D).map f = Pr.askTo kd (f z) k s (D.map f)
  | 0, _, _ => rfl
  | k + 1, s, D => by
    show (Pr.askTo _ z k (s + 1) _).map f = Pr.askTo kd (f z) k (s + 1) _
    rw [map_askTo f kd z k, map_ask, map_bestV f]
theorem topOf_map (f : α → β) (best : List (Int × Vo α)) (x : Int) : topOf (mmap (Vo.map f) best) x = topOf best x := by
  unfold topOf mmap
  rw [List.foldl_map]
theorem map_lead (f : α → β) (kd : β → Int) (z : α) (D : Pr α) : (D.lead (fun x => kd (f x)) z).map f = (D.map f).lead kd (f z) := by
  unfold Pr.lead
  dsimp only
  have h : ∀ (E : Pr α), ({ E with best := [] } : Pr α).map f = { E.map f with best := [] } := fun E => rfl
  rw [h, map_askTo]
  have h2 : ({ D with phase := 2, next := topOf D.best D.frm } : Pr α).map f = { D.map f with phase := 2, next := topOf (D.map f).best (D.map f).frm } := by
    unfold Pr.map; dsimp only; rw [topOf_map]
  have h3 : topOf (D.map f).best (D.map f).frm = topOf D.best D.frm := topOf_map f D.best D.frm
  rw [h2, h3]; rfl
theorem map_fill (f : α → β) (kd : β → Int) (ex : Int) : ∀ (k : Nat) (D : Pr α), (Pr.fill (fun x => kd (f x)) ex k D).map f = Pr.fill kd ex k (D.map f)
  | 0, _ => rfl
  | k + 1, D => by
    unfold Pr.fill
    cases hq : D.queue with
    | nil =>
      rw [show (D.map f).queue = [] by show D.queue.map f = []; rw [hq]; rfl]
    | cons v q =>
      rw [show (D.map f).queue = f v :: q.map f by show D.queue.map f = _; rw [hq]; rfl]
      dsimp only
      show (if D.next - D.window ≤ ex ∧ D.next ≤ 1099511627776 then _ else _ : Pr α).map f = if D.next - D.window ≤ ex ∧ D.next ≤ 1099511627776 then _ else _
      split
      · rw [map_fill f kd ex k]
        have := map_ask f kd D D.next v
        have e : ({ D.ask (fun x => kd (f x)) D.next v with queue := q, next := D.next + 1 } : Pr α).map f = { (D.map f).ask kd (D.map f).next (f v) with queue := q.map f, next := (D.map f).next + 1 } := by
          rw [show (D.map f).next = D.next from rfl, ← this]; rfl
        rw [e]
      · rfl
theorem map_down (f : α → β) (D : Pr α) : D.down.map f = (D.map f).down := rfl
theorem map_decided (f : α → β) (D : Pr α) (s : Int) : (D.decided s).map f = (D.map f).decided s := by
  unfold Pr.decided Pr.map
  simp only [mdel_map]
theorem map_told (f : α → β) (D : Pr α) (s r n : Int) (v : α) : (D.told s r n v).map f = (D.map f).told s r n (f v) := by
  unfold Pr.told Pr.map
  simp only
  rw [show (⟨s, r, n, f v⟩ : Vo β) = Vo.map f ⟨s, r, n, v⟩ from rfl, mput_map]
end
end Go.Eng
