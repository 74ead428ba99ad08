/- Promise: one that is taken. -/
import Derived.Test.YtlgpjjgkdpmidaaPrM
namespace Go.Eng
open Go.RowKit Go.Syn Go.MapKept Go.Proofs.Ytlgpjjgkdpmidaa
set_option linter.unusedVariables false
section
variable {α β : Type}
def balOf (o : Option (Vo α)) : Int × Int := match o with | some y => (y.r, y.n) | none => (0, 0)
def Pr.tell (D : Pr α) (s r n : Int) (v : α) : Pr α := if compareV r n (balOf (mlk D.best s)).1 (balOf (mlk D.best s)).2 > 0 then D.told s r n v else D
theorem map_tell (f : α → β) (D : Pr α) (s r n : Int) (v : α) : (D.tell s r n v).map f = (D.map f).tell s r n (f v) := by
  have h : balOf (mlk (D.map f).best s) = balOf (mlk D.best s) := by
    show balOf (mlk (mmap (Vo.map f) D.best) s) = _
    rw [mlk_map]
    cases mlk D.best s <;> rfl
  unfold Pr.tell
  rw [h]
  split
  · exact map_told f D s r n v
  · rfl
end
def Pr.hear (P : Pr Vl) (xs : List (Vo Vl)) : Pr Vl := xs.foldl (fun P x => P.tell x.s x.r x.n x.v) P
def Pr.promised (P : Pr Vl) (node : Int) (xs : List (Vo Vl)) : Pr Vl × Bool := if enoughB P.mem (P.said ++ [node]) = true then (((P.say node).hear xs).lead Vl.k vz, true) else ((P.say node).hear xs, false)
end Go.Eng
namespace Go.Proofs.Ytlgpjjgkdpmidaa
open Go.ChangeShapes Go.WideShapes Go.ChangeAt Go.RowKit Go.Syn Go.Eng Go.MapKept
set_option linter.unusedVariables false
set_option linter.unusedSimpArgs false
set_option maxRecDepth 100000
theorem all_cons (x : HX) (xs : List HX) : HX.all (x :: xs) = x.and (HX.all xs) := HX.ext (by
    funext k
    refine propext ⟨fun ⟨y, hy, hk⟩ => ?_, fun h => ?_⟩
    · rcases List.mem_cons.1 hy with rfl | hy
      · exact .inl hk
      · exact .inr ⟨y, hy, hk⟩
    · rcases h with hk | ⟨y, hy, hk⟩
      · exact ⟨x, .head _, hk⟩
      · exact ⟨y, .tail _ hy, hk⟩) (by
    funext w
    refine propext ⟨fun h => ⟨h x (.head _), fun y hy => h y (.tail _ hy)⟩, fun h y hy => ?_⟩
    rcases List.mem_cons.1 hy with rfl | hy
    · exact h.1
    · exact h.2 y hy)
theorem vo_cellsN {w : World} {a : Option Addr} {xs : List (Vo Pv)} (h : (voX a xs).X w) {i : Nat} {x : Vo Pv} (hi : xs[i]? = some x) (us : List Value) (hu : us = voC x ∨ us = [.int .i64 x.s]) (N : Nat → Prop) (hN : ∀ k, (voX a xs).F k → ¬ N k) : a.isSome = true ∧ CellsAt w (.pointer (some (((a.getD ⟨0, 0, none⟩).add (i * 6)).add 0))) us N := by
  obtain ⟨h1, h2⟩ := flat_part voc_len h.1 hi (o := 0) us (fun j u hj => by
    rw [Nat.zero_add]
    rcases hu with rfl | rfl
    · exact hj
    · cases j with
      | zero => exact hj
      | succ j => simp at hj) (by rcases hu with rfl | rfl <;> simp [voC])
  refine ⟨h1, h2 N (hN _ (.inl ⟨?_, ?_⟩))⟩
  · cases xs with
    | nil => simp at hi
    | cons y r => simp [vocs, voC]
  · cases a with
    | none => cases h1
    | some z => rfl
def PhI (w : World) (F : Nat → Prop) (av : Option Addr) (xs : List (Vo Pv)) (D1 : Pr Pv) (a1 : PA) (vs : Vals) (hx : HX) (m : Nat) : Prop := ∃ (k : Nat) (best : List (Int × Vo Pv)) (G : List HX), m = xs.length - k ∧ k ≤ xs.length ∧ vs = ⟨[(k : Int)], [], [], [], []⟩ ∧ POk { D1 with best := best } { a1 with G := G } ∧ ({ D1 with best := best } : Pr Pv).map Pv.v = (D1.map Pv.v).hear (vlsOf (xs.take k)) ∧ (∀ p ∈ best, D1.frm ≤ p.1 ∧ p.1 ≤ D1.frm + 63) ∧ (∀ k, (prX { D1 with best := best } { a1 with G := G }).F k → (w.heap.size ≤ k ∨ F k) ∧ ¬ (voX av xs).F k) ∧ hx = (voX av xs).and (prX { D1 with best := best } { a1 with G := G })
def PhJ (w : World) (F : Nat → Prop) (av : Option Addr) (xs : List (Vo Pv)) (D1 : Pr Pv) (a1 : PA) (k : Nat) (vs : Vals) (hx : HX) : Prop := ∃ (best : List (Int × Vo Pv)) (G : List HX), vs = Vals.nil ∧ POk { D1 with best := best } { a1 with G := G } ∧ ({ D1 with best := best } : Pr Pv).map Pv.v = (D1.map Pv.v).hear (vlsOf (xs.take k)) ∧ (∀ p ∈ best, D1.frm ≤ p.1 ∧ p.1 ≤ D1.frm + 63) ∧ (∀ k, (prX { D1 with best := best } { a1 with G := G }).F k → (w.heap.size ≤ k ∨ F k) ∧ ¬ (voX av xs).F k) ∧ hx = (voX av xs).and (prX { D1 with best := best } { a1 with G := G })
section
variable {w : World} {nb : Nat} {F : Nat → Prop} {P : Pr Vl} {av : Option Addr} {xs : List (Vo Pv)}
set_option maxHeartbeats 1600000 in
theorem promise_any (node low : Int) (cv : Nat) (H0 : (HX.obj F (PrO nb P)).X w) (hF : ∀ k, F k → k < w.heap.size) (HV : (voX av xs).X w) (hvF : ∀ k, (voX av xs).F k → ¬ F k) (hvf : ∀ x ∈ xs, VlFit x.v.v)
    (h0 : proE P.r P.n P.frm low (vlsOf xs) = 0) (h1 : P.phase = 1) (h2 : hasB P.mem node = true) (h3 : ∀ x ∈ xs, P.frm ≤ x.s ∧ x.s ≤ P.frm + 63) (h4 : low < P.frm) (h5 : 1 ≤ P.frm ∧ P.frm ≤ 1099511627776) (h6 : ∀ p ∈ P.best, P.frm ≤ p.1 ∧ p.1 ≤ P.frm + 63) (h7 : P.said.length ≤ 1000 ∧ P.fresh.length ≤ 1000 ∧ P.mem.length ≤ 9) (h8 : (∀ x ∈ P.said, I64 x) ∧ I64 node) (hxl : xs.length ≤ 64) :
    Calls Try.prog 13 #[.pointer (some ⟨nb, 0, none⟩), .int .i64 node, proM P.r P.n P.frm low (.slice av xs.length cv)] w (PrMut w F nb (P.promised node (vlsOf xs)).1 (.tuple #[.bool (P.promised node (vlsOf xs)).2, .int .i64 0])) := by
  obtain ⟨D, a, hP, hok, hnb, hB, hX, Fnb, hsub⟩ := pobj_open H0
  subst hP
  have h1 : D.phase = 1 := h1
  have h3 : ∀ x ∈ xs, D.frm ≤ x.s ∧ x.s ≤ D.frm + 63 := h3
  have h4 : low < D.frm := h4
  have h5 : 1 ≤ D.frm ∧ D.frm ≤ 1099511627776 := h5
  have h7 : D.said.length ≤ 1000 ∧ D.fresh.length ≤ 1000 ∧ D.mem.length ≤ 9 := h7
  have h8 : (∀ x ∈ D.said, I64 x) ∧ I64 node := h8
  have h2 : hasB D.mem node = true := h2
  have h6 : ∀ p ∈ D.best, D.frm ≤ p.1 ∧ p.1 ≤ D.frm + 63 := fun p hp => h6 (p.1, Vo.map Pv.v p.2) (List.mem_map.2 ⟨p, hp, rfl⟩)
  have hmX : ∀ {w}, (prX D a).X w → Ints w a.am D.mem := fun h => h.1.1.1.1.1 _ hok.gm
  have hsep : ∀ k, ((voX av xs).and (prX D a)).F k → k < w.heap.size ∧ k ≠ nb := fun k hk => hk.elim (fun q => ⟨voX_sep HV k q, fun e => hvF k q (e ▸ Fnb)⟩) (fun q => ⟨hF k (hsub k q), fun e => hnb (e ▸ q)⟩)
  refine calls_at (tab_ok _) Try.func13 rfl tPProm (ρ := ⟨[D.me, D.window, D.phase, D.r, D.n, D.frm, D.next, node, D.r, D.n, D.frm, low], [D.stop], [.map (some a.bb), .map (some a.bo)], [D.mem.length, a.cm, D.said.length, a.cs, D.fresh.length, a.cf, D.queue.length, a.cq, xs.length, cv], [a.am, a.as_, a.af, a.aq, av]⟩) (ids := [nb]) (hx := (voX av xs).and (prX D a)) rfl (Facts.initx (M := F) rfl (fun v hv => by simp only [List.mem_cons, List.not_mem_nil, or_false] at hv; rcases hv with rfl | rfl <;> rfl) hB rfl Fnb ⟨HV, hX⟩ hsep) ?_
  refine node_PI ⟨[0], [], [], [], []⟩ (fun _ => #[proM D.r D.n D.frm low (.slice av xs.length cv)]) (.int .i64 0) (by intros; kernel_rfl) (by intros; kernel_rfl) (by kernel_rfl) (by kernel_rfl) (by kernel_rfl) oneNil (fun ids w2 hp hf => ?_) ?_
  · have := mchkP_any cv D.r D.n D.frm low w2 hf.x.1 hvf
    rw [show proE D.r D.n D.frm low (vlsOf xs) = 0 from h0] at this; exact this
  refine br_F false (by kernel_rfl) rfl ?_
  refine br_F (D.phase != 1) (by kernel_rfl) (by rw [h1]; rfl) ?_
  refine br_F (!(D.r == D.r && D.n == D.n)) (by kernel_rfl) (by simp) ?_
  refine br_F (D.frm != D.frm) (by kernel_rfl) (by simp) ?_
  refine node_PI ⟨[], [true], [], [], []⟩ (fun _ => #[.slice a.am D.mem.length a.cm, .int .i64 node]) (.bool true) (by intros; kernel_rfl) (by intros; kernel_rfl) (by kernel_rfl) (by kernel_rfl) (by kernel_rfl) oneNil (fun ids w2 hp hf => ?_) ?_
  · have := has_any a.am a.cm D.mem node w2 (hmX hf.x.2)
    rw [h2] at this; exact pure_same this
  refine br_F false (by kernel_rfl) rfl ?_
  refine br_D (p := (xs.length : Int) > 0) (by kernel_rfl) (fun hpos => ?x) (fun hpos => ?y)
  case' x =>
    have hw0 : IntKind.i64.wrap ((xs.length : Int) - 1) = ((xs.length - 1 : Nat) : Int) := by rw [wrap_i64 (by omega)]; omega
    obtain ⟨xl, hxl2⟩ : ∃ b, xs[xs.length - 1]? = some b := ⟨_, List.getElem?_eq_getElem (by omega)⟩
    have hxlm := h3 xl (List.mem_of_getElem? hxl2)
    obtain ⟨s1, q1⟩ := vo_cellsN HV hxl2 [.int .i64 xl.s] (.inr rfl) F hvF
    refine need_k (av.isSome = true ∧ 0 ≤ IntKind.i64.wrap ((xs.length : Int) - 1) ∧ IntKind.i64.wrap ((xs.length : Int) - 1) < (xs.length : Int)) (by kernel_rfl) ⟨s1, by omega, by omega⟩ ?_
    refine node_ld0 (k := ⟨13, 2, 2, 10, 5⟩) ⟨[xl.s], [], [], [], []⟩ (.pointer (some (((av.getD ⟨0, 0, none⟩).add ((IntKind.i64.wrap ((xs.length : Int) - 1)).toNat * 6)).add 0))) [.int .i64 xl.s] (by intros; kernel_rfl) (by intros; kernel_rfl) (by rw [hw0, Int.toNat_natCast]; exact q1) ⟨by kernel_rfl, (fun v hv => by have hv : v ∈ [Value.map (some a.bb), Value.map (some a.bo)] := hv; simp only [List.mem_cons, List.not_mem_nil, or_false] at hv; rcases hv with rfl | rfl <;> rfl)⟩ (by kernel_rfl) oneNil ?_
    have hws : IntKind.i64.wrap (xl.s - D.frm) = xl.s - D.frm := wrap_i64 (by omega)
    refine br_D (p := IntKind.i64.wrap (xl.s - D.frm) ≥ 64) (by kernel_rfl) (fun h => absurd h (by rw [hws]; omega)) (fun _ => ?_)
  all_goals
    refine br_D (p := low ≥ D.frm) (by kernel_rfl) (fun h => absurd h (by omega)) (fun _ => ?_)
    obtain ⟨R, eR⟩ : ∃ R, R = (((((voX av xs).and (HX.all a.G)).and (HX.vmap a.bb (mmap voV D.best))).and (HX.vmap a.bo (mmap Pv.val D.out))).and (irow a.af a.cf D.fresh)).and (qrow a.aq a.cq D.queue) := ⟨_, rfl⟩
    have e1 : (voX av xs).and (prX D a) = R.and (irow a.as_ a.cs D.said) := by rw [eR]; unfold prX; ac_rfl
    refine holds_eq e1 ?_
    refine node_pushs (e := 3) (sz := 1) rfl Try.underlying26 info_int1 rfl (by decide) a.as_ D.said.length a.cs (D.said.map (Value.int .i64)) [.int .i64 node] 2 (by intros; kernel_rfl) (by intros; kernel_rfl) rfl (by intros; kernel_rfl) rfl (fun v hv => by simp only [List.mem_singleton] at hv; subst hv; rfl) (fun k q1 q2 => ?_) (fun k q1 q2 => .inr (hsub k (pcs_F (b := irow a.as_ a.cs D.said) (by simp [pcs]) ⟨q1, q2⟩))) (by unfold maxLen; omega) (by omega) (by intros; kernel_rfl) (by kernel_rfl) (by kernel_rfl) (by intros; kernel_rfl) ?_
    · have hk : (irow a.as_ a.cs D.said).F k := ⟨q1, q2⟩
      have hkX : (prX D a).F k := pcs_F (b := irow a.as_ a.cs D.said) (by simp [pcs]) hk
      rw [eR]
      rintro (((((q | q) | q) | q) | q) | q)
      · exact hvF k q (hsub k hkX)
      · exact dj_at hok.dj (i := 3) rfl hk 0 rfl (by decide) q
      · exact dj_at hok.dj (i := 3) rfl hk 1 rfl (by decide) q
      · exact dj_at hok.dj (i := 3) rfl hk 2 rfl (by decide) q
      · exact dj_at hok.dj (i := 3) rfl hk 4 rfl (by decide) q
      · exact dj_at hok.dj (i := 3) rfl hk 5 rfl (by decide) q
    intro as' cs' hc' hr' hor'
    obtain ⟨D1, eD1⟩ : ∃ D1, D1 = D.say node := ⟨_, rfl⟩
    obtain ⟨a1, ea1⟩ : ∃ a1 : PA, a1 = { a with as_ := as', cs := cs' } := ⟨_, rfl⟩
    have hrow : HX.rw 1 3 as' (D.said.length + 1) cs' (D.said.map (Value.int .i64) ++ [.int .i64 node]) = irow as' cs' (D.said ++ [node]) := by
      unfold irow; rw [List.length_append, List.map_append]; rfl
    have hFr : ∀ k, (irow as' cs' (D.said ++ [node])).F k → (irow a.as_ a.cs D.said).F k ∨ (w.heap.size ≤ k ∧ ¬ (R.and (irow a.as_ a.cs D.said)).F k) := fun k hk => by
      rcases hor' with ⟨r1, r2⟩ | ⟨g, r1, r2, r3⟩
      · exact .inl ⟨r1, by rw [← r2]; exact hk.2⟩
      · have : g = k := Option.some.inj (r1.symm.trans hk.2)
        subst this
        exact .inr ⟨r2, r3⟩
    have hok1 : POk D1 a1 := by
      rw [eD1, ea1]
      refine ⟨hok.gm, hok.gz, hok.gb, hok.go, hok.gq, hok.dj.set (i := 3) (a' := irow as' cs' (D.said ++ [node])) rfl fun k hk => (hFr k hk).imp id fun q b hb z => q.2 ?_⟩
      rw [← e1]; exact .inr (pcs_F hb z)
    have e2 : R.and (HX.rw 1 3 as' (D.said.length + 1) cs' (D.said.map (Value.int .i64) ++ [.int .i64 node])) = (voX av xs).and (prX D1 a1) := by
      rw [hrow, eR, eD1, ea1]; unfold prX Pr.say; dsimp only; ac_rfl
    have hF1 : ∀ k, (prX D1 a1).F k → (w.heap.size ≤ k ∨ F k) ∧ ¬ (voX av xs).F k := fun k hk => by
      have key : (prX D a).F k ∨ (w.heap.size ≤ k ∧ ¬ (R.and (irow a.as_ a.cs D.said)).F k) := by
        rw [eD1, ea1] at hk
        rcases hk with ((((hk | hk) | hk) | hk) | hk) | hk
        · exact .inl (.inl (.inl (.inl (.inl (.inl hk)))))
        · exact .inl (.inl (.inl (.inl (.inl (.inr hk)))))
        · exact .inl (.inl (.inl (.inl (.inr hk))))
        · exact (hFr k hk).imp (fun q => .inl (.inl (.inr q))) id
        · exact .inl (.inl (.inr hk))
        · exact .inl (.inr hk)
      rcases key with q | q
      · exact ⟨.inr (hsub k q), fun z => hvF k z (hsub k q)⟩
      · exact ⟨.inl q.1, fun z => q.2 (by rw [← e1]; exact .inl z)⟩
    refine holds_eq e2 ?_
    refine ⟨PhI w F av xs D1 a1, fun ids w2 hp hf => ⟨_, xs.length, ⟨hf.x, hf.sep⟩, 0, D1.best, a1.G, rfl, Nat.zero_le _, by kernel_rfl, hok1, rfl, by rw [eD1]; exact h6, hF1, rfl⟩, ?_⟩
    rintro vs hx' n hcnt ⟨k, best, G, rfl, hk, rfl, hokc, hmap, hbr, hown, rfl⟩
    have hfrm : D1.frm = D.frm := by rw [eD1]; rfl
    have cells : ∀ (best : List (Int × Vo Pv)) (G : List HX), prC { D1 with best := best } { a1 with G := G } = [.int .i64 D.me, .slice a.am D.mem.length a.cm, .int .i64 D.window, .int .i64 D.phase, .int .i64 D.r, .int .i64 D.n, .int .i64 D.frm, .slice as' (D.said.length + 1) cs', .map (some a.bb), .int .i64 D.next, .map (some a.bo), .slice a.af D.fresh.length a.cf, .slice a.aq D.queue.length a.cq, .bool D.stop] := fun best G => by
      rw [eD1, ea1]
      unfold prC Pr.say
      dsimp only
      rw [List.length_append]; rfl
    refine br_D (p := (k : Int) < (xs.length : Int)) (by kernel_rfl) (fun hkl => ?_) (fun hkl => ?_)
    · obtain ⟨x, hx⟩ : ∃ b, xs[k]? = some b := ⟨_, List.getElem?_eq_getElem (by omega)⟩
      have hxr := h3 x (List.mem_of_getElem? hx)
      have htk : vlsOf (xs.take (k + 1)) = vlsOf (xs.take k) ++ [Vo.map Pv.v x] := by
        unfold vlsOf
        rw [List.take_add_one, hx, List.map_append]; rfl
      obtain ⟨s1, q1⟩ := vo_cellsN HV hx (voC x) (.inl rfl) F hvF
      obtain ⟨y, ey⟩ : ∃ y : Vo Pv, y = (mlk best x.s).getD ⟨0, 0, 0, pz⟩ := ⟨_, rfl⟩
      have hbal : balOf (mlk best x.s) = (y.r, y.n) := by
        rw [ey]
        cases mlk best x.s <;> rfl
      have hmap' : ∀ best' : List (Int × Vo Pv), ({ D1 with best := best' } : Pr Pv) = ({ D1 with best := best } : Pr Pv).tell x.s x.r x.n x.v ∨ (∃ p : Pv, p.v = x.v.v ∧ ({ D1 with best := best' } : Pr Pv) = ({ D1 with best := best } : Pr Pv).tell x.s x.r x.n p) → ({ D1 with best := best' } : Pr Pv).map Pv.v = (D1.map Pv.v).hear (vlsOf (xs.take (k + 1))) := fun best' h => by
        rw [htk]
        unfold Pr.hear at hmap ⊢
        rw [List.foldl_append, ← hmap]
        rcases h with h | ⟨p, hp, h⟩
        · rw [h, map_tell]; rfl
        · rw [h, map_tell, hp]; rfl
      refine ⟨PhJ w F av xs D1 a1 (k + 1), ?_, ?_⟩
      · refine need_k (av.isSome = true ∧ 0 ≤ (k : Int) ∧ (k : Int) < (xs.length : Int)) (by kernel_rfl) ⟨s1, by omega, by omega⟩ ?_
        refine node_ld0 ⟨[x.s, x.r, x.n, x.v.v.k], [], [], [x.v.v.cs.length, x.v.c1, x.v.v.ns.length, x.v.c2], [x.v.a1, x.v.a2]⟩ (.pointer (some (((av.getD ⟨0, 0, none⟩).add (k * 6)).add 0))) (voC x) (by intros; kernel_rfl) (by intros; kernel_rfl) q1 ⟨rfl, (fun v hv => by have hv : v ∈ [Value.map (some a.bb), Value.map (some a.bo)] := hv; simp only [List.mem_cons, List.not_mem_nil, or_false] at hv; rcases hv with rfl | rfl <;> rfl)⟩ (by kernel_rfl) oneNil ?_
        refine node_vlook1 (z := voV ⟨0, 0, 0, pz⟩) (mt := 74) (kt := 3) (et := 49) ⟨[y.s, y.r, y.n, y.v.v.k], [], [], [y.v.v.cs.length, y.v.c1, y.v.v.ns.length, y.v.c2], [y.v.a1, y.v.a2]⟩ a.bb (mmap voV best) x.s (fun w h => by have := h.2.1.1.1.1.2; rw [ea1] at this; exact this) (by intros; kernel_rfl) (by intros; kernel_rfl) Try.underlying74 Try.underlying3 (fun w => by kernel_rfl) (fun ids => ?_) (by kernel_rfl) (by kernel_rfl) (by kernel_rfl) oneNil ?_
        · have : (vlk (mmap voV best) x.s).getD (voV ⟨0, 0, 0, pz⟩) = voV y := by
            rw [vlk_is, mlk_map, ey]
            cases mlk best x.s <;> rfl
          exact Eq.trans (b := voV y) (by kernel_rfl) this.symm
        refine node_PI ⟨[compareV x.r x.n y.r y.n], [], [], [], []⟩ (fun _ => #[.agg #[.int .i64 x.r, .int .i64 x.n], .agg #[.int .i64 y.r, .int .i64 y.n]]) (.int .i64 (compareV x.r x.n y.r y.n)) (by intros; kernel_rfl) (by intros; kernel_rfl) (by kernel_rfl) (by kernel_rfl) (by kernel_rfl) oneNil (fun ids w2 hp hf => compare_any x.r x.n y.r y.n w2) ?_
        refine br_D (p := compareV x.r x.n y.r y.n > 0) (by kernel_rfl) (fun hgt => ?_) (fun hgt => ?_)
        · refine node_vl (V := id) (v := x.v.v) (fun _ => #[x.v.val]) (fun b1 d1 b2 d2 => ⟨[x.v.v.k], [], [], [x.v.v.cs.length, d1, x.v.v.ns.length, d2], [b1, b2]⟩) (by intros; kernel_rfl) (fun ids w2 hp hf => vclone_any _ _ _ _ _ w2 (voX_at hf.x.1 hvf (List.mem_of_getElem? hx))) (by intros; kernel_rfl) (by kernel_rfl) (by kernel_rfl) (by intros; kernel_rfl) (fun _ _ _ _ => oneNil) ?_
          intro b1 d1 b2 d2 hfr
          obtain ⟨p, ep⟩ : ∃ p : Pv, p = ⟨x.v.v, b1, d1, b2, d2⟩ := ⟨_, rfl⟩
          have epx : vlX x.v.v b1 b2 = p.hx := by rw [ep]; rfl
          rw [epx] at hfr ⊢
          obtain ⟨Q, eQ⟩ : ∃ Q, Q = ((((((voX av xs).and p.hx).and (HX.all G)).and (HX.vmap a1.bo (mmap Pv.val D1.out))).and (irow a1.as_ a1.cs D1.said)).and (irow a1.af a1.cf D1.fresh)).and (qrow a1.aq a1.cq D1.queue) := ⟨_, rfl⟩
          have e3 : ((voX av xs).and (prX { D1 with best := best } { a1 with G := G })).and p.hx = Q.and (HX.vmap a1.bb (mmap voV best)) := by rw [eQ]; unfold prX; dsimp only; ac_rfl
          refine holds_eq e3 ?_
          have hbbF : (prX { D1 with best := best } { a1 with G := G }).F a1.bb := .inl (.inl (.inl (.inl (.inr rfl))))
          refine node_vput (mt := 74) (kt := 3) (et := 49) a1.bb (mmap voV best) x.s (voV ⟨x.s, x.r, x.n, p⟩) (hown _ hbbF).1 ?_ (fun ids => by rw [ea1]; kernel_rfl) (by intros; kernel_rfl) (fun ids => by rw [ep]; kernel_rfl) Try.underlying74 Try.underlying3 (by kernel_rfl) (by kernel_rfl) (by kernel_rfl) ?_
          · rw [eQ]
            rintro ((((((q | q) | q) | q) | q) | q) | q)
            · exact (hown _ hbbF).2 q
            · exact (hfr _ q).2 (.inr hbbF)
            · exact dj_at hokc.dj (i := 1) rfl (k := a1.bb) rfl 0 rfl (by decide) q
            · exact dj_at hokc.dj (i := 1) rfl (k := a1.bb) rfl 2 rfl (by decide) q
            · exact dj_at hokc.dj (i := 1) rfl (k := a1.bb) rfl 3 rfl (by decide) q
            · exact dj_at hokc.dj (i := 1) rfl (k := a1.bb) rfl 4 rfl (by decide) q
            · exact dj_at hokc.dj (i := 1) rfl (k := a1.bb) rfl 5 rfl (by decide) q
          rw [vput_is, mput_map]
          obtain ⟨best', eb⟩ : ∃ best', best' = mput best x.s ⟨x.s, x.r, x.n, p⟩ := ⟨_, rfl⟩
          rw [← eb]
          have e4 : Q.and (HX.vmap a1.bb (mmap voV best')) = (voX av xs).and (prX { D1 with best := best' } { a1 with G := p.hx :: G }) := by rw [eQ]; unfold prX; dsimp only; rw [all_cons]; ac_rfl
          refine holds_eq e4 ?_
          have hG : ∀ q, (HX.all (p.hx :: G)).F q → (HX.all G).F q ∨ p.hx.F q := fun q ⟨z, hz, hq⟩ => by
            rcases List.mem_cons.1 hz with rfl | hz
            · exact .inr hq
            · exact .inl ⟨z, hz, hq⟩
          refine again_V Vals.nil rfl (by intros; kernel_rfl) _ (fun w2 ids hf => ⟨hf.x, hf.sep⟩) ⟨best', p.hx :: G, rfl, ⟨.tail _ hokc.gm, .tail _ hokc.gz, fun q hq => ?_, fun q hq => ⟨.tail _ (hokc.go q hq).1, (hokc.go q hq).2⟩, fun q hq => ⟨.tail _ (hokc.gq q hq).1, (hokc.gq q hq).2⟩, ?_⟩, hmap' best' (.inr ⟨p, by rw [ep], ?_⟩), fun q hq => ?_, fun q hq => ?_, rfl⟩
          · have hq : q ∈ best' := hq
            rw [eb] at hq
            rcases mput_mem hq with rfl | hq
            · exact ⟨.head _, by rw [ep]; exact hvf x (List.mem_of_getElem? hx)⟩
            · exact ⟨.tail _ (hokc.gb q hq.1).1, (hokc.gb q hq.1).2⟩
          · have d1 := hokc.dj.set (i := 1) (a' := HX.vmap a1.bb (mmap voV best')) rfl fun q hq => .inl hq
            refine d1.set (i := 0) (a' := HX.all (p.hx :: G)) rfl fun q hq => (hG q hq).imp id fun z c hc hcq => (hfr q z).2 (.inr ?_)
            simp only [pcs, List.set_cons_succ, List.set_cons_zero, List.mem_cons, List.not_mem_nil, or_false] at hc
            rcases hc with rfl | rfl | rfl | rfl | rfl | rfl
            · exact .inl (.inl (.inl (.inl (.inl hcq))))
            · exact .inl (.inl (.inl (.inl (.inr hcq))))
            · exact .inl (.inl (.inl (.inr hcq)))
            · exact .inl (.inl (.inr hcq))
            · exact .inl (.inr hcq)
            · exact .inr hcq
          · unfold Pr.tell
            show _ = if compareV x.r x.n (balOf (mlk best x.s)).1 (balOf (mlk best x.s)).2 > 0 then _ else _
            rw [hbal, if_pos hgt, eb]; rfl
          · rw [eb] at hq
            rcases mput_mem hq with rfl | hq
            · rw [hfrm]; exact hxr
            · exact hbr q hq.1
          · rcases hq with ((((hq | hq) | hq) | hq) | hq) | hq
            · rcases hG q hq with z | z
              · exact hown q (.inl (.inl (.inl (.inl (.inl z)))))
              · exact ⟨.inl (hfr q z).1, fun t => (hfr q z).2 (.inl t)⟩
            · exact hown q (.inl (.inl (.inl (.inl (.inr hq)))))
            · exact hown q (.inl (.inl (.inl (.inr hq))))
            · exact hown q (.inl (.inl (.inr hq)))
            · exact hown q (.inl (.inr hq))
            · exact hown q (.inr hq)
        · refine again_V Vals.nil rfl (by intros; kernel_rfl) _ (fun w2 ids hf => ⟨hf.x, hf.sep⟩) ⟨best, G, rfl, hokc, hmap' best (.inl ?_), hbr, hown, rfl⟩
          unfold Pr.tell
          show _ = if compareV x.r x.n (balOf (mlk best x.s)).1 (balOf (mlk best x.s)).2 > 0 then _ else _
          rw [hbal, if_neg hgt]
      · rintro vs hx' hcnt2 ⟨best', G', rfl, hokc', hmapc, hbr', hown', rfl⟩
        rw [Env.add_nil]
        have hwk : IntKind.i64.wrap ((k : Int) + 1) = ((k + 1 : Nat) : Int) := by rw [wrap_i64 (by omega)]; omega
        exact again_V ⟨[IntKind.i64.wrap ((k : Int) + 1)], [], [], [], []⟩ rfl (by intros; kernel_rfl) _ (fun w2 ids hf => ⟨hf.x, hf.sep⟩) ⟨xs.length - (k + 1), by omega, k + 1, best', G', rfl, by omega, by rw [hwk], hokc', hmapc, hbr', hown', rfl⟩
    · have hks : xs.take k = xs := List.take_of_length_le (by omega)
      rw [hks] at hmap
      have hsm : D1.map Pv.v = (D.map Pv.v).say node := by rw [eD1]; rfl
      rw [hsm] at hmap
      refine node_PI ⟨[], [enoughB D.mem (D.said ++ [node])], [], [], []⟩ (fun _ => #[.slice a.am D.mem.length a.cm, .slice as' (D.said.length + 1) cs']) (.bool (enoughB D.mem (D.said ++ [node]))) (by intros; kernel_rfl) (by intros; kernel_rfl) (by kernel_rfl) (by kernel_rfl) (by kernel_rfl) oneNil (fun ids w2 hp hf => ?_) ?_
      · have hx2 := hf.x.2
        rw [eD1, ea1] at hx2 hokc
        have hI1 : Ints w2 a.am D.mem := hx2.1.1.1.1.1 _ hokc.gm
        have hI2 : Ints w2 as' (D.said ++ [node]) := Ints.of_cells (by rw [List.length_append]; simp only [List.length_cons, List.length_nil]; omega) (fun z hz => (List.mem_append.1 hz).elim (h8.1 z) fun q => by rw [List.mem_singleton.1 q]; exact h8.2) (rw_cells hx2.1.1.2)
        have := enough_any a.am a.cm D.mem as' cs' (D.said ++ [node]) w2 hI1 hI2
        rw [List.length_append] at this
        exact pure_same this
      have hpr : (D.map Pv.v).promised node (vlsOf xs) = if enoughB D.mem (D.said ++ [node]) = true then ((((D.map Pv.v).say node).hear (vlsOf xs)).lead Vl.k vz, true) else (((D.map Pv.v).say node).hear (vlsOf xs), false) := rfl
      refine br_B (!(enoughB D.mem (D.said ++ [node]))) (by kernel_rfl) (fun h => ?_) (fun h => ?_)
      · rw [hpr, if_neg (by rw [show enoughB D.mem (D.said ++ [node]) = false by simpa using h]; decide)]
        exact pr_done (D' := { D1 with best := best }) (a' := { a1 with G := G }) hmap hokc (fun w h => h.2) (fun k hk => .inr hk) (fun k hk => (hown k hk).1.symm) Fnb (fun ids => by rw [cells]; kernel_rfl) (by intros; kernel_rfl)
      · rw [hpr, if_pos (by simpa using h)]
        refine node_pset (D := { D1 with best := best }) (D' := ({ D1 with best := best } : Pr Pv).lead kdP pz) (a := { a1 with G := G }) (fun ids => #[.pointer (some ⟨idAt ids 0, 0, none⟩)]) rfl rfl (by intros; kernel_rfl) (fun ids => by rw [cells]; kernel_rfl) (fun ids w2 hp hf hb hn hs => lead_any hb hf.x.2 hokc hn hs (by show 1 ≤ D1.frm ∧ _; rw [hfrm]; exact h5) hbr (by show D1.fresh.length ≤ 1000; rw [eD1]; exact h7.2.1)) (by intros; kernel_rfl) (by intros; kernel_rfl) (fun k hk => ⟨(hown k hk).2, (hown k hk).1⟩) (by kernel_rfl) (by intros; kernel_rfl) ?_
        intro a2 hok2 hdis
        refine pr_done (D' := ({ D1 with best := best } : Pr Pv).lead kdP pz) (a' := a2) ?_ hok2 (fun w h => h.2) (fun k hk => .inr hk) (fun k hk => (hdis k hk).2.symm) Fnb (by intros; kernel_rfl) (by intros; kernel_rfl)
        rw [show (kdP : Pv → Int) = fun x => Vl.k (Pv.v x) from rfl, map_lead Pv.v Vl.k, hmap]; rfl
end
end Go.Proofs.Ytlgpjjgkdpmidaa
