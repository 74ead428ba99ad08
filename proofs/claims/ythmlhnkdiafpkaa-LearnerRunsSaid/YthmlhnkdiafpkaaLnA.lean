/- The learner in memory; open, settle, Told, Known, Next, Pass, Size. -/
import Derived.Test.YthmlhnkdiafpkaaLn0
import Derived.Test.YthmlhnkdiafpkaaLnT
namespace Go.Eng
open Go.RowKit Go.Syn Go.MapKept
set_option linter.unusedVariables false
section
variable {P : Program} {W w w' : World} {M : Nat → Prop} {R : Ending → World → Prop} {C : Cfg} {ρ : Env} {pre ids : List Nat} {hx : HX} {L : Stack} {m m' : Mem} {t f : Tree} {b : BE}
theorem br_D {p : Prop} [Decidable p] (e : b.den ρ = decide p) (ht : p → t.holds C ρ pre hx L) (hf : ¬ p → f.holds C ρ pre hx L) : (Tree.br b t f).holds C ρ pre hx L :=
  br_i (fun h => ht (of_decide_eq_true (e ▸ h))) (fun h => hf (of_decide_eq_false (e ▸ h)))
theorem br_B (c : Bool) (e : b.den ρ = c) (ht : c = true → t.holds C ρ pre hx L) (hf : c = false → f.holds C ρ pre hx L) : (Tree.br b t f).holds C ρ pre hx L :=
  br_i (fun h => ht (e ▸ h)) (fun h => hf (e ▸ h))
/-- The known block is as it was. -/
theorem Facts.same1 {bk ty : Nat} {cs : List LV} {us : List Value} {r : List (Nat × List LV)} {n : Cnt} {N : Nat → Prop} (hf : Facts ⟨P, W, N, R⟩ ⟨(ty, cs) :: r, n⟩ ρ ids hx w) (hp : [bk] <+: ids) (hW : Blk W bk us ty) (hc : cellsDen ρ ids cs = us) : w.heap[bk]? = W.heap[bk]? := by
  have h := hf.blk 0 ty cs rfl
  rw [idAt0 hp, hc] at h
  exact h.trans hW.symm
theorem pure1_done {bk ty : Nat} {cs : List LV} {us : List Value} {r : List (Nat × List LV)} {n : Cnt} {V : Value} {v : SV} (hW : Blk W bk us ty) (hv : ∀ ids, v.den ρ ids = V) (hc : ∀ ids, cellsDen ρ ids cs = us) :
    (Tree.done v ⟨(ty, cs) :: r, n⟩).holds ⟨P, W, fun x => x = bk, PureAt W V⟩ ρ [bk] hx L := fun ids w2 hp hf =>
  ⟨by rw [hv], (hf.chg.same (hf.same1 hp hW (hc _))).below⟩
theorem cfalse_below (h : Chg (fun _ => False) W w) : Below W.heap.size W w := h.below
end
end Go.Eng
namespace Go.Proofs.Ythmlhnkdiafpkaa
open Go.ChangeShapes Go.WideShapes Go.ChangeAt Go.RowKit Go.Syn Go.Eng Go.MapKept
set_option linter.unusedVariables false
set_option linter.unusedSimpArgs false
set_option maxRecDepth 100000
structure Pv where
  v : Vl
  a1 : Option Addr
  c1 : Nat
  a2 : Option Addr
  c2 : Nat
def Pv.val (p : Pv) : Value := vlV p.v p.a1 p.c1 p.a2 p.c2
def Pv.hx (p : Pv) : HX := vlX p.v p.a1 p.a2
def hdV (h : Hd Pv) : Value := .agg #[.int .i64 h.r, .int .i64 h.n, .int .i64 h.v.v.k, .slice h.v.a1 h.v.v.cs.length h.v.c1, .slice h.v.a2 h.v.v.ns.length h.v.c2]
abbrev InM := Nat × List (Int × Hd Pv)
def InM.val (q : InM) : Value := .map (some q.1)
/-- How it lies. -/
structure LD where
  am : Option Addr
  cm : Nat
  bv : Nat
  bd : Nat
  ds : List (Int × Pv)
  vs : List (Int × InM)
  G : List HX
def LD.F (D : LD) (k : Nat) : Prop := k = D.bv ∨ k = D.bd ∨ (∃ p ∈ D.vs, p.2.1 = k) ∨ ∃ h ∈ D.G, h.F k
structure LD.At (D : LD) (w : World) : Prop where
  d : VMap w D.bd (mmap Pv.val D.ds)
  v : VMap w D.bv (mmap InM.val D.vs)
  i : ∀ p ∈ D.vs, VMap w p.2.1 (mmap hdV p.2.2)
  g : ∀ h ∈ D.G, h.X w
def LD.X (D : LD) : HX := ⟨D.F, D.At, fun w w' h e => ⟨h.d.loc (e _ (.inr (.inl rfl))), h.v.loc (e _ (.inl rfl)), fun p hp => (h.i p hp).loc (e _ (.inr (.inr (.inl ⟨p, hp, rfl⟩)))), fun x hx => x.loc w w' (h.g x hx) fun k hk => e k (.inr (.inr (.inr ⟨x, hx, hk⟩)))⟩⟩
structure LOk (L : Ln) (D : LD) : Prop where
  de : L.de = mmap Pv.v D.ds
  vo : L.vo = mmap (fun q : InM => mmap (Hd.map Pv.v) q.2) D.vs
  gm : HX.ints D.am L.mem ∈ D.G
  gd : ∀ p ∈ D.ds, p.2.hx ∈ D.G ∧ VlFit p.2.v
  gv : ∀ p ∈ D.vs, ∀ q ∈ p.2.2, q.2.v.hx ∈ D.G ∧ VlFit q.2.v.v
  ne : D.bv ≠ D.bd
  nv : ∀ p ∈ D.vs, p.2.1 ≠ D.bv ∧ p.2.1 ≠ D.bd
  nn : (D.vs.map fun p => p.2.1).Nodup
  ng : ∀ h ∈ D.G, ∀ k, h.F k → k ≠ D.bv ∧ k ≠ D.bd ∧ ∀ p ∈ D.vs, p.2.1 ≠ k
def lnC (L : Ln) (D : LD) : List Value := [.slice D.am L.mem.length D.cm, .int .i64 L.next, .int .i64 L.top, .map (some D.bv), .map (some D.bd)]
/-- The learner at a block. -/
def LnO (nb : Nat) (L : Ln) (h : HX) : Prop := ∃ D, LOk L D ∧ ¬ D.F nb ∧ h = (HX.blk nb (.cells (lnC L D).toArray 77 (0, 0))).and D.X
def LnMut (w : World) (F : Nat → Prop) (nb : Nat) (L' : Ln) (V : Value) (e : Ending) (w' : World) : Prop := e = .returned V ∧ ∃ F', (HX.obj F' (LnO nb L')).X w' ∧ (∀ k, F' k → (F k ∨ w.heap.size ≤ k) ∧ k < w'.heap.size) ∧ Chg F w w'
theorem LD.sep {D : LD} {w : World} (h : D.At w) (hG : ∀ x ∈ D.G, ∀ k, x.F k → k < w.heap.size) : ∀ k, D.F k → k < w.heap.size := fun k hk => by
  rcases hk with rfl | rfl | ⟨p, hp, rfl⟩ | ⟨x, hx, hk⟩
  · exact h.v.lt
  · exact h.d.lt
  · exact (h.i p hp).lt
  · exact hG x hx k hk
theorem vz_val : vlV vz none 0 none 0 = .agg #[.int .i64 0, .slice none 0 0, .slice none 0 0] := rfl
theorem vz_fit : VlFit vz := ⟨(fun n h => by cases h), by decide, by decide⟩
theorem zero_val (w : World) : (zeroValue 32).run Try.prog w = .ok (vlV vz none 0 none 0) w := by kernel_rfl
/-- What a slot's decision lies as. -/
def LD.got (D : LD) (slot : Int) : Pv := (mlk D.ds slot).getD ⟨vz, none, 0, none, 0⟩
theorem LOk.got {L : Ln} {D : LD} (h : LOk L D) (slot : Int) : (D.got slot).v = (L.known slot).1 ∧ (L.known slot).2 = (mlk D.ds slot).isSome ∧ (mlk (mmap Pv.val D.ds) slot).getD (vlV vz none 0 none 0) = (D.got slot).val ∧ VlFit (D.got slot).v := by
  unfold Ln.known LD.got
  rw [h.de, mlk_map, mlk_map]
  cases e : mlk D.ds slot with
  | none => exact ⟨rfl, rfl, rfl, vz_fit⟩
  | some p => exact ⟨rfl, rfl, rfl, (h.gd _ (mlk_mem e)).2⟩
theorem cl_nil (a : Option Addr) (w : World) : Cells w a [] := fun h => by simp at h
theorem LOk.gotX {L : Ln} {D : LD} (h : LOk L D) (slot : Int) {w : World} (hX : D.At w) : VlAt w (D.got slot).v (D.got slot).a1 (D.got slot).a2 := by
  unfold LD.got
  cases e : mlk D.ds slot with
  | none => exact vz_fit.at_ ⟨cl_nil _ _, cl_nil _ _⟩
  | some p =>
    obtain ⟨g1, g2⟩ := h.gd _ (mlk_mem e)
    exact g2.at_ (hX.g _ g1)
section
variable {L : Ln} {D : LD} {nb : Nat} {w : World}
theorem open_any (slot : Int) (v : Vl) (a1 : Option Addr) (c1 : Nat) (a2 : Option Addr) (c2 : Nat) (hB : Blk w nb (lnC L D) 77) (hX : D.At w) (hok : LOk L D) (hinv : LnInv L) (hnb : ¬ D.F nb) (hsl : I64 slot) (H : VlAt w v a1 a2) (hs : ∀ k, (D.X.and (vlX v a1 a2)).F k → k < w.heap.size ∧ k ≠ nb) :
    Calls Try.prog 31 #[.pointer (some ⟨nb, 0, none⟩), .int .i64 slot, vlV v a1 c1 a2 c2] w (PureAt w (.bool (L.openB slot v))) := by
  refine calls_at (tab_ok _) Try.func31 rfl tLOpen (ρ := ⟨[L.next, L.top, slot, v.k], [], [.map (some D.bv), .map (some D.bd)], [L.mem.length, D.cm, v.cs.length, c1, v.ns.length, c2], [D.am, a1, a2]⟩) (ids := [nb]) (hx := D.X.and (vlX v a1 a2)) rfl (Facts.initx (M := fun x => x = nb) rfl (fun v hv => by simp only [List.mem_cons, List.not_mem_nil, or_false] at hv; rcases hv with rfl | rfl <;> rfl) hB rfl rfl ⟨hX, H.X⟩ hs) ?_
  have n1 := hinv.next1
  have n2 := hinv.next2
  have no : ∀ {m : Cnt} {r : List (Nat × List LV)} {ρ : Env} {hx : HX} {S : Stack} {cs : List LV}, L.openB slot v = false → (∀ ids, cellsDen ρ ids cs = lnC L D) → (Tree.done (.lf (.bool (.lit false))) ⟨(77, cs) :: r, m⟩).holds ⟨Try.prog, w, fun x => x = nb, PureAt w (.bool (L.openB slot v))⟩ ρ [nb] hx S := fun h hc => pure1_done hB (fun _ => by rw [h]; rfl) hc
  have wr : L.next ≤ slot → IntKind.i64.wrap (slot - L.next) = slot - L.next := fun h => wrap_i64 (by unfold I64 at hsl; omega)
  refine br_D (p := slot < L.next) (by kernel_rfl) (fun h => no (Bool.eq_false_iff.2 fun q => by have := (openB_iff.1 q).1.1; omega) (by intros; kernel_rfl)) (fun h1 => ?_)
  refine br_D (p := IntKind.i64.wrap (slot - L.next) ≥ 128) (by kernel_rfl) (fun h => no (Bool.eq_false_iff.2 fun q => by rw [wr (by omega)] at h; have := (openB_iff.1 q).1.2.1; omega) (by intros; kernel_rfl)) (fun h2 => ?_)
  refine br_D (p := slot > 1099511627776) (by kernel_rfl) (fun h => no (Bool.eq_false_iff.2 fun q => by have := (openB_iff.1 q).1.2.2.1; omega) (by intros; kernel_rfl)) (fun h3 => ?_)
  rw [wr (by omega)] at h2
  refine node_PI ⟨[valE v], [], [], [], []⟩ (fun _ => #[vlV v a1 c1 a2 c2]) (.int .i64 (valE v)) (by intros; kernel_rfl) (by intros; kernel_rfl) (by kernel_rfl) (by kernel_rfl) (by kernel_rfl) oneNil (fun ids w2 hp hf => vchk_any v a1 c1 a2 c2 w2 (H.fit.at_ hf.x.2)) ?_
  refine br_B (valE v != 0) (by kernel_rfl) (fun h => no (Bool.eq_false_iff.2 fun q => by simp only [bne_iff_ne] at h; exact h (openB_iff.1 q).1.2.2.2) (by intros; kernel_rfl)) (fun h4 => ?_)
  have h4 : valE v = 0 := by simpa using h4
  obtain ⟨g1, g2, g3, g4⟩ := hok.got slot
  refine node_vlook (z := vlV vz none 0 none 0) (mt := 75) (kt := 3) (et := 32) ⟨[(D.got slot).v.k], [(L.known slot).2], [], [(D.got slot).v.cs.length, (D.got slot).c1, (D.got slot).v.ns.length, (D.got slot).c2], [(D.got slot).a1, (D.got slot).a2]⟩ D.bd (mmap Pv.val D.ds) slot (fun w h => h.1.d) (by intros; kernel_rfl) (by intros; kernel_rfl) Try.underlying75 Try.underlying3 zero_val (fun ids => ?_) (by kernel_rfl) (by kernel_rfl) (by kernel_rfl) oneNil ?_
  · rw [vlk_is, g3]
    show Value.tuple #[(D.got slot).val, .bool (L.known slot).2] = _
    rw [g2, mlk_map, Option.isSome_map]
  · refine pure1_done hB (fun ids => ?_) (by intros; kernel_rfl)
    show Value.bool (!(L.known slot).2) = _
    unfold Ln.openB Ln.known
    rw [decide_eq_true ⟨by omega, by omega, by omega, h4⟩]
    cases mlk L.de slot <;> rfl
end
end Go.Proofs.Ythmlhnkdiafpkaa
