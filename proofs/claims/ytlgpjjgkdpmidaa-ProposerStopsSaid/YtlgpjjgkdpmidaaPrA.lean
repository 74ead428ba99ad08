/- The proposer in memory; down, prepare, ask, Decided, Waiting, Top, Stopping. -/
import Derived.Test.YtlgpjjgkdpmidaaPr0
import Derived.Test.YtlgpjjgkdpmidaaPrT
namespace Go.Eng
open Go.RowKit Go.Syn Go.MapKept
set_option linter.unusedVariables false
section
variable {P : Program} {W w w' : World} {M : Nat → Prop} {R : Ending → World → Prop} {C : Cfg} {ρ : Env} {pre ids : List Nat} {hx : HX} {L : Stack} {m m' : Mem} {t f : Tree} {b : BE}
theorem br_D {p : Prop} [Decidable p] (e : b.den ρ = decide p) (ht : p → t.holds C ρ pre hx L) (hf : ¬ p → f.holds C ρ pre hx L) : (Tree.br b t f).holds C ρ pre hx L :=
  br_i (fun h => ht (of_decide_eq_true (e ▸ h))) (fun h => hf (of_decide_eq_false (e ▸ h)))
theorem br_B (c : Bool) (e : b.den ρ = c) (ht : c = true → t.holds C ρ pre hx L) (hf : c = false → f.holds C ρ pre hx L) : (Tree.br b t f).holds C ρ pre hx L :=
  br_i (fun h => ht (e ▸ h)) (fun h => hf (e ▸ h))
/-- The known block is as it was. -/
theorem Facts.same1 {bk ty : Nat} {cs : List LV} {us : List Value} {r : List (Nat × List LV)} {n : Cnt} {N : Nat → Prop} (hf : Facts ⟨P, W, N, R⟩ ⟨(ty, cs) :: r, n⟩ ρ ids hx w) (hp : [bk] <+: ids) (hW : Blk W bk us ty) (hc : cellsDen ρ ids cs = us) : w.heap[bk]? = W.heap[bk]? := by
  have h := hf.blk 0 ty cs rfl
  rw [idAt0 hp, hc] at h
  exact h.trans hW.symm
theorem pure1_done {bk ty : Nat} {cs : List LV} {us : List Value} {r : List (Nat × List LV)} {n : Cnt} {V : Value} {v : SV} (hW : Blk W bk us ty) (hv : ∀ ids, v.den ρ ids = V) (hc : ∀ ids, cellsDen ρ ids cs = us) :
    (Tree.done v ⟨(ty, cs) :: r, n⟩).holds ⟨P, W, fun x => x = bk, PureAt W V⟩ ρ [bk] hx L := fun ids w2 hp hf =>
  ⟨by rw [hv], (hf.chg.same (hf.same1 hp hW (hc _))).below⟩
end
instance : Std.Associative HX.and := ⟨HX.and_assoc⟩
instance : Std.Commutative HX.and := ⟨HX.and_comm⟩
end Go.Eng
namespace Go.Proofs.Ytlgpjjgkdpmidaa
open Go.ChangeShapes Go.WideShapes Go.ChangeAt Go.RowKit Go.Syn Go.Eng Go.MapKept
set_option linter.unusedVariables false
set_option linter.unusedSimpArgs false
set_option maxRecDepth 100000
structure Pv where
  v : Vl
  a1 : Option Addr
  c1 : Nat
  a2 : Option Addr
  c2 : Nat
def Pv.val (p : Pv) : Value := vlV p.v p.a1 p.c1 p.a2 p.c2
def Pv.hx (p : Pv) : HX := vlX p.v p.a1 p.a2
def Pv.cells (p : Pv) : List Value := [.int .i64 p.v.k, .slice p.a1 p.v.cs.length p.c1, .slice p.a2 p.v.ns.length p.c2]
def vz : Vl := ⟨0, [], []⟩
def pz : Pv := ⟨vz, none, 0, none, 0⟩
theorem vz_fit : VlFit vz := ⟨(fun n h => by cases h), by decide, by decide⟩
def kdP (p : Pv) : Int := p.v.k
def voV (x : Vo Pv) : Value := .agg #[.int .i64 x.s, .int .i64 x.r, .int .i64 x.n, .int .i64 x.v.v.k, .slice x.v.a1 x.v.v.cs.length x.v.c1, .slice x.v.a2 x.v.v.ns.length x.v.c2]
def qcs (q : List Pv) : List Value := q.flatMap Pv.cells
/-- Where it lies. -/
structure PA where
  am : Option Addr
  cm : Nat
  as_ : Option Addr
  cs : Nat
  bb : Nat
  bo : Nat
  af : Option Addr
  cf : Nat
  aq : Option Addr
  cq : Nat
  G : List HX
def irow (a : Option Addr) (cap : Nat) (xs : List Int) : HX := HX.rw 1 3 a xs.length cap (xs.map (Value.int .i64))
def qrow (a : Option Addr) (cap : Nat) (q : List Pv) : HX := HX.tw 3 31 a q.length cap (qcs q)
def prX (D : Pr Pv) (a : PA) : HX := (((((HX.all a.G).and (HX.vmap a.bb (mmap voV D.best))).and (HX.vmap a.bo (mmap Pv.val D.out))).and (irow a.as_ a.cs D.said)).and (irow a.af a.cf D.fresh)).and (qrow a.aq a.cq D.queue)
def pcs (D : Pr Pv) (a : PA) : List HX := [HX.all a.G, HX.vmap a.bb (mmap voV D.best), HX.vmap a.bo (mmap Pv.val D.out), irow a.as_ a.cs D.said, irow a.af a.cf D.fresh, qrow a.aq a.cq D.queue]
theorem pcs_F {D : Pr Pv} {a : PA} {b : HX} (hb : b ∈ pcs D a) {k : Nat} (hk : b.F k) : (prX D a).F k := by
  simp only [pcs, List.mem_cons, List.not_mem_nil, or_false] at hb
  rcases hb with rfl | rfl | rfl | rfl | rfl | rfl
  · exact .inl (.inl (.inl (.inl (.inl hk))))
  · exact .inl (.inl (.inl (.inl (.inr hk))))
  · exact .inl (.inl (.inl (.inr hk)))
  · exact .inl (.inl (.inr hk))
  · exact .inl (.inr hk)
  · exact .inr hk
structure POk (D : Pr Pv) (a : PA) : Prop where
  gm : HX.ints a.am D.mem ∈ a.G
  gz : pz.hx ∈ a.G
  gb : ∀ p ∈ D.best, p.2.v.hx ∈ a.G ∧ VlFit p.2.v.v
  go : ∀ p ∈ D.out, p.2.hx ∈ a.G ∧ VlFit p.2.v
  gq : ∀ p ∈ D.queue, p.hx ∈ a.G ∧ VlFit p.v
  dj : Dj (pcs D a)
def prC (D : Pr Pv) (a : PA) : List Value := [.int .i64 D.me, .slice a.am D.mem.length a.cm, .int .i64 D.window, .int .i64 D.phase, .int .i64 D.r, .int .i64 D.n, .int .i64 D.frm, .slice a.as_ D.said.length a.cs, .map (some a.bb), .int .i64 D.next, .map (some a.bo), .slice a.af D.fresh.length a.cf, .slice a.aq D.queue.length a.cq, .bool D.stop]
/-- The proposer at a block. -/
def PrO (nb : Nat) (P : Pr Vl) (h : HX) : Prop := ∃ D a, D.map Pv.v = P ∧ POk D a ∧ ¬ (prX D a).F nb ∧ h = (HX.blk nb (.cells (prC D a).toArray 77 (0, 0))).and (prX D a)
def PrMut (w : World) (F : Nat → Prop) (nb : Nat) (P' : Pr Vl) (V : Value) (e : Ending) (w' : World) : Prop := e = .returned V ∧ ∃ F', (HX.obj F' (PrO nb P')).X w' ∧ (∀ k, F' k → (F k ∨ w.heap.size ≤ k) ∧ k < w'.heap.size) ∧ Chg F w w'
/-- What an inner method does, told in full. -/
def PSet (w : World) (nb : Nat) (D : Pr Pv) (a : PA) (D' : Pr Pv) (e : Ending) (w' : World) : Prop := e = .returned (.tuple #[]) ∧ ∃ a', POk D' a' ∧ Blk w' nb (prC D' a') 77 ∧ (prX D' a').X w' ∧ (∀ k, (prX D' a').F k → ((prX D a).F k ∨ w.heap.size ≤ k) ∧ k < w'.heap.size) ∧ Chg (fun k => k = nb ∨ (prX D a).F k) w w'
section
variable {D D' : Pr Pv} {a a' : PA} {nb : Nat} {w : World}
theorem pset_done {cs : List LV} {r : List (Nat × List LV)} {n : Cnt} {v : SV} {ρ : Env} {hx : HX} {S : Stack} (hok : POk D' a') (hX : ∀ w, hx.X w → (prX D' a').X w) (hF : ∀ k, (prX D' a').F k → hx.F k ∧ ((prX D a).F k ∨ w.heap.size ≤ k)) (hc : ∀ ids, cellsDen ρ ids cs = prC D' a') (hv : ∀ ids, v.den ρ ids = .tuple #[]) :
    (Tree.done v ⟨(77, cs) :: r, n⟩).holds ⟨Try.prog, w, fun k => k = nb ∨ (prX D a).F k, PSet w nb D a D'⟩ ρ [nb] hx S := fun ids w2 hp hf => by
  have h := hf.blk 0 77 cs rfl
  rw [idAt0 hp, hc] at h
  exact ⟨by rw [hv], a', hok, h, hX w2 hf.x, fun k hk => ⟨(hF k hk).2, (hf.sep k (hF k hk).1).1⟩, hf.chg⟩
theorem pr_done {F : Nat → Prop} {P' : Pr Vl} {cs : List LV} {r : List (Nat × List LV)} {n : Cnt} {V : Value} {v : SV} {ρ : Env} {hx : HX} {S : Stack} (hP : D'.map Pv.v = P') (hok : POk D' a') (hX : ∀ w, hx.X w → (prX D' a').X w) (hF : ∀ k, (prX D' a').F k → hx.F k) (hF2 : ∀ k, (prX D' a').F k → F k ∨ w.heap.size ≤ k) (hnb : F nb) (hc : ∀ ids, cellsDen ρ ids cs = prC D' a') (hv : ∀ ids, v.den ρ ids = V) :
    (Tree.done v ⟨(77, cs) :: r, n⟩).holds ⟨Try.prog, w, F, PrMut w F nb P' V⟩ ρ [nb] hx S := fun ids w2 hp hf => by
  have h := hf.blk 0 77 cs rfl
  rw [idAt0 hp, hc] at h
  have hmem : nb ∈ ids := by obtain ⟨x, rfl⟩ := hp; simp
  refine ⟨by rw [hv], fun k => k = nb ∨ (prX D' a').F k, ⟨_, ⟨D', a', hP, hok, fun q => (hf.sep nb (hF nb q)).2 hmem, rfl⟩, ⟨h, hX w2 hf.x⟩, fun k hk => hk⟩, fun k hk => ?_, hf.chg⟩
  rcases hk with rfl | hk
  · exact ⟨.inl hnb, hf.id_lt hmem⟩
  · exact ⟨hF2 k hk, (hf.sep k (hF k hk)).1⟩
theorem pobj_open {F : Nat → Prop} {P : Pr Vl} (h : (HX.obj F (PrO nb P)).X w) : ∃ D a, D.map Pv.v = P ∧ POk D a ∧ ¬ (prX D a).F nb ∧ Blk w nb (prC D a) 77 ∧ (prX D a).X w ∧ F nb ∧ ∀ k, (prX D a).F k → F k := by
  obtain ⟨h, ⟨D, a, hP, hok, hnb, rfl⟩, ⟨hB, hX⟩, hsub⟩ := h
  exact ⟨D, a, hP, hok, hnb, hB, hX, hsub nb (.inl rfl), fun k hk => hsub k (.inr hk)⟩
theorem row0_F {sz e k : Nat} {b : Option Addr} {n : Nat} {xs : List Value} (h : (HX.rw sz e b n 0 xs).F k) : False := h.1 rfl
theorem tow0_F {sz e k : Nat} {b : Option Addr} {n : Nat} {xs : List Value} (h : (HX.tw sz e b n 0 xs).F k) : False := h.1 rfl
theorem down_any (hB : Blk w nb (prC D a) 77) (hX : (prX D a).X w) (hok : POk D a) (hnb : ¬ (prX D a).F nb) (hD : ∀ k, (prX D a).F k → k < w.heap.size) : Calls Try.prog 28 #[.pointer (some ⟨nb, 0, none⟩)] w (PSet w nb D a D.down) := by
  refine calls_at (tab_ok _) Try.func28 rfl tPDown (ρ := ⟨[D.me, D.window, D.phase, D.r, D.n, D.frm, D.next], [D.stop], [.map (some a.bb), .map (some a.bo)], [D.mem.length, a.cm, D.said.length, a.cs, D.fresh.length, a.cf, D.queue.length, a.cq], [a.am, a.as_, a.af, a.aq]⟩) (ids := [nb]) (hx := prX D a) rfl (Facts.initx (M := fun k => k = nb ∨ (prX D a).F k) rfl (fun v hv => by simp only [List.mem_cons, List.not_mem_nil, or_false] at hv; rcases hv with rfl | rfl <;> rfl) hB rfl (.inl rfl) hX (fun k hk => ⟨hD k hk, fun e => hnb (e ▸ hk)⟩)) ?_
  refine node_vmake (by intros; kernel_rfl) (by kernel_rfl) (by kernel_rfl) (by intros; kernel_rfl) ?_
  intro b1 h1 h2
  refine node_vmake (by intros; kernel_rfl) (by kernel_rfl) (by kernel_rfl) (by intros; kernel_rfl) ?_
  intro b2 h3 h4
  have hb : b2 ≠ b1 := fun e => h4 (.inr e)
  have h4 : ¬ (prX D a).F b2 := fun q => h4 (.inl q)
  refine pset_done (D' := D.down) (a' := { a with as_ := none, cs := 0, bb := b1, bo := b2, af := none, cf := 0, aq := none, cq := 0 }) ⟨hok.gm, hok.gz, (fun p hp => by cases hp), (fun p hp => by cases hp), (fun p hp => by cases hp), ?_⟩ (fun w h => ⟨⟨⟨⟨⟨h.1.1.1.1.1.1.1, h.1.2⟩, h.2⟩, HX.rw_nil _ _ _ _⟩, HX.rw_nil _ _ _ _⟩, HX.tw_nil _ _ _ _⟩) (fun k hk => ?_) (by intros; kernel_rfl) (by intros; kernel_rfl)
  · have d1 := hok.dj.set (i := 1) (a' := HX.vmap b1 []) rfl fun k hk => .inr fun b hb q => h2 (by rw [show k = b1 from hk] at q; exact pcs_F hb q)
    have d2 := d1.set (i := 2) (a' := HX.vmap b2 []) rfl fun k hk => .inr fun b hb2 q => by
      rw [show k = b2 from hk] at q
      simp only [pcs, List.set_cons_succ, List.set_cons_zero, List.mem_cons, List.not_mem_nil, or_false] at hb2
      rcases hb2 with rfl | rfl | rfl | rfl | rfl | rfl
      · exact h4 (pcs_F (D := D) (a := a) (by simp [pcs]) q)
      · exact hb q
      · exact h4 (pcs_F (D := D) (a := a) (by simp [pcs]) q)
      · exact h4 (pcs_F (D := D) (a := a) (by simp [pcs]) q)
      · exact h4 (pcs_F (D := D) (a := a) (by simp [pcs]) q)
      · exact h4 (pcs_F (D := D) (a := a) (by simp [pcs]) q)
    have d3 := d2.set (i := 3) (a' := irow none 0 []) rfl fun k hk => (row0_F hk).elim
    have d4 := d3.set (i := 4) (a' := irow none 0 []) rfl fun k hk => (row0_F hk).elim
    exact d4.set (i := 5) (a' := qrow none 0 []) rfl fun k hk => (tow0_F hk).elim
  · rcases hk with ((((hk | hk) | hk) | hk) | hk) | hk
    · exact ⟨.inl (.inl (.inl (.inl (.inl (.inl (.inl hk)))))), .inl (.inl (.inl (.inl (.inl (.inl hk)))))⟩
    · exact ⟨.inl (.inr hk), .inr (by rw [show k = b1 from hk]; exact h1)⟩
    · exact ⟨.inr hk, .inr (by rw [show k = b2 from hk]; exact h3)⟩
    · exact (row0_F hk).elim
    · exact (row0_F hk).elim
    · exact (tow0_F hk).elim
end
end Go.Proofs.Ytlgpjjgkdpmidaa
