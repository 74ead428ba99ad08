/- The net's methods: Take, Copy, List; calls as nodes. -/
import Derived.Test.YteeecfdcebcbbaaNetM
namespace Go.Proofs.Yteeecfdcebcbbaa
open Go.ChangeShapes Go.WideShapes Go.ChangeAt Go.RowKit Go.Syn Go.Eng
set_option linter.unusedVariables false
set_option linter.unusedSimpArgs false
section
variable {C : Cfg} {ρ : Env} {pre : List Nat} {rest : HX} {L : Stack} {m m' : Mem} {args : List SV} {r : SV} {t : Tree} {a : Option Addr} {cap : Nat} {ps : List Pk}
theorem net_at {ids : List Nat} {w : World} {cs : List LV} (n : Nat) (hf : Facts C m ρ ids (rest.and (netHX a cap ps)) w) (hn : m.hp[n]? = some (49, cs)) (hcs : ∀ ids, cellsDen ρ ids cs = [.slice a ps.length cap]) (hap : Apart a cap ps) : NetAt w (idAt ids n) a cap ps := by
  have hlt : n < m.hp.length := by
    rcases Nat.lt_or_ge n m.hp.length with q | q
    · exact q
    · rw [List.getElem?_eq_none q] at hn; cases hn
  have hmem := idAt_mem (ids := ids) (n := n) (hf.len ▸ hlt)
  have hb := hf.blk n _ _ hn
  rw [hcs] at hb
  exact ⟨hb, hf.x.2, hap, fun k hk => ⟨(hf.sep k (.inr hk)).1, fun e => (hf.sep k (.inr hk)).2 (e ▸ hmem)⟩⟩
theorem node_net {f : Nat} {cs : List LV} {D : List PkD} {V : Value} (n : Nat) (is : List Int) (bl : List Bool) (hP : C.P = Try.prog) (hn : m.hp[n]? = some (49, cs)) (hcs : ∀ ids, cellsDen ρ ids cs = [.slice a ps.length cap]) (hap : Apart a cap ps) (hM : ∀ k, cap ≠ 0 → abk a = some k → C.W.heap.size ≤ k ∨ C.M k) (hrest : ∀ k, cap ≠ 0 → abk a = some k → ¬ rest.F k)
    (hcall : ∀ ids w, pre <+: ids → Facts C m ρ ids (rest.and (netHX a cap ps)) w → NetAt w (idAt ids n) a cap ps → Calls Try.prog f (args.map (SV.den ρ ids)).toArray w (NetR w (idAt ids n) a cap ps D V))
    (cs' : List LV) (hhp : m'.hp = m.hp.set n (49, cs')) (hcs' : ∀ a' cap' n' ids, cellsDen (ρ.add ⟨is, bl, [], [n', cap'], [a']⟩) ids cs' = [.slice a' n' cap']) (hr : ∀ a' cap' n' ids, r.den (ρ.add ⟨is, bl, [], [n', cap'], [a']⟩) ids = V) (hfit : hpFits m.c m.hp.length m.hp = true) (hc : ∀ a' cap' n', (ρ.add ⟨is, bl, [], [n', cap'], [a']⟩).cnt = m'.c)
    (h : ∀ a' cap' ps', ps'.map Pk.d = D → Apart a' cap' ps' → (∀ k, cap' ≠ 0 → abk a' = some k → (cap ≠ 0 ∧ abk a = some k) ∨ (C.W.heap.size ≤ k ∧ ¬ rest.F k)) → (∀ k, (netHX a' cap' ps').F k → (netHX a cap ps).F k ∨ (C.W.heap.size ≤ k ∧ ¬ rest.F k)) → t.holds C (ρ.add ⟨is, bl, [], [ps'.length, cap'], [a']⟩) pre (rest.and (netHX a' cap' ps')) L) :
    (Tree.call f args m r m' t).holds C ρ pre (rest.and (netHX a cap ps)) L := by
  intro ids w hp hf
  rw [hP]
  refine (hcall ids w hp hf (net_at n hf hn hcs hap)).mono ?_
  rintro e w' ⟨rfl, a', cap', ps', hD, hb, hX, hap', hch, hfr, hF⟩
  have nres : ∀ k, w.heap.size ≤ k → ¬ rest.F k := fun k hk hF => by have := (hf.sep k (.inl hF)).1; omega
  refine ⟨_, ids, rest.and (netHX a' cap' ps'), by rw [← hr a' cap' ps'.length ids], List.prefix_refl _, hf.act (hx' := rest.and (netHX a' cap' ps')) hch (fun b hb => ?_) hn (by rw [hcs']; exact hb) ⟨rest.loc w w' hf.x.1 fun k hk => hch.block k (hf.sep k (.inl hk)).1 fun q => ?_, hX⟩ (fun k hk => ?_) hhp hfit (hc _ _ _) oneNil, holds_pre t hp (h a' cap' ps' hD hap' (fun k h1 h2 => (hfr k h1 h2).imp_right fun q => ⟨Nat.le_trans hf.chg.size q, nres k q⟩) (fun k hk => (hF k hk).imp_right fun q => ⟨Nat.le_trans hf.chg.size q.1, nres k q.1⟩))⟩
  · rcases hb with hb | ⟨h1, h2⟩
    · exact .inl hb
    · exact .inr ⟨.inr (.inr ⟨h1, h2⟩), hM b h1 h2⟩
  · rcases q with q | ⟨h1, h2⟩
    · have hlt : n < m.hp.length := by
        rcases Nat.lt_or_ge n m.hp.length with q | q
        · exact q
        · rw [List.getElem?_eq_none q] at hn; cases hn
      exact (hf.sep k (.inl hk)).2 (q ▸ idAt_mem (hf.len ▸ hlt))
    · exact hrest k h1 h2 hk
  · rcases hk with hk | hk
    · exact .inl (.inl hk)
    · rcases hF k hk with q | q
      · exact .inl (.inr q)
      · exact .inr q
end
theorem net_elt {w : World} {a : Option Addr} {cap : Nat} {ps : List Pk} (h : (netHX a cap ps).X w) {i : Nat} {p : Pk} (hi : ps[i]? = some p) :
    a.isSome = true ∧ ∀ (N : Nat → Prop), ¬ N ((a.getD ⟨0, 0, none⟩).block) → CellsAt w (.pointer (some (((a.getD ⟨0, 0, none⟩).add (i * 3)).add 0))) p.cells N :=
  cl_elt (rw_cells h.2) p.cells (fun j u hj => pcells_get hi j u hj) (by simp [Pk.cells])
theorem net_some {w : World} {a : Option Addr} {cap : Nat} {ps : List Pk} (h : (netHX a cap ps).X w) {i : Nat} {p : Pk} (hi : ps[i]? = some p) : a.isSome = true := (net_elt h hi).1
set_option maxRecDepth 100000 in
theorem copy_no (nb : Nat) (a : Option Addr) (cap : Nat) (ps : List Pk) (i : Int) (w : World) (H : NetAt w nb a cap ps) (hi : ¬ (0 ≤ i ∧ i < (ps.length : Int))) : Calls Try.prog 10 #[.pointer (some ⟨nb, 0, none⟩), .int .i64 i] w (NetR w nb a cap ps (ps.map Pk.d) (.bool false)) := by
  refine calls_at (tab_ok _) Try.func10 rfl tNCopy (ρ := ⟨[i], [], [], [ps.length, cap], [a]⟩) (ids := [nb]) (hx := netHX a cap ps) (M := fun x => x = nb ∨ (cap ≠ 0 ∧ abk a = some x)) rfl (Facts.initx rfl oneNil H.blk rfl (.inl rfl) H.mem H.sep) ?_
  refine node_pure ⟨[], [decide (0 ≤ i ∧ i < (ps.length : Int))], [], [], []⟩ rfl rfl rfl oneNil (fun ids w2 hp hf => ?_) ?_
  · have h0 := hf.blkAt 0 rfl
    exact has_any (idAt ids 0) a cap ps.length i w2 h0
  refine br_f (decide_eq_false hi) (net_same H.apart (fun _ => rfl) (fun _ => rfl) rfl)
set_option maxRecDepth 100000 in
theorem copy_yes (nb : Nat) (a : Option Addr) (cap : Nat) (ps : List Pk) (i : Nat) (p : Pk) (w : World) (H : NetAt w nb a cap ps) (hi : ps[i]? = some p) (hb : p.bs.length ≤ 140737488355328) :
    Calls Try.prog 10 #[.pointer (some ⟨nb, 0, none⟩), .int .i64 (i : Int)] w (NetR w nb a cap ps (putD (ps.map Pk.d) p.d) (.bool (decide (putE (ps.map Pk.d) p.d = 0)))) := by
  have hlt : i < ps.length := by
    rcases Nat.lt_or_ge i ps.length with q | q
    · exact q
    · rw [List.getElem?_eq_none q] at hi; cases hi
  have hpm := List.mem_of_getElem? hi
  refine calls_at (tab_ok _) Try.func10 rfl tNCopy (ρ := ⟨[(i : Int)], [], [], [ps.length, cap], [a]⟩) (ids := [nb]) (hx := HX.nil.and (netHX a cap ps)) (M := fun x => x = nb ∨ (cap ≠ 0 ∧ abk a = some x)) rfl (Facts.initx rfl oneNil H.blk rfl (.inl rfl) ⟨trivial, H.mem⟩ (fun k hk => hk.elim (fun h => h.elim) (H.sep k))) ?_
  refine node_pure ⟨[], [decide (0 ≤ (i : Int) ∧ (i : Int) < (ps.length : Int))], [], [], []⟩ rfl rfl rfl oneNil (fun ids w2 hp hf => ?_) ?_
  · have h0 := hf.blkAt 0 rfl
    exact has_any (idAt ids 0) a cap ps.length i w2 h0
  refine br_t (decide_eq_true ⟨by omega, by omega⟩) ?_
  refine need_i ⟨net_some H.mem hi, (show (0 : Int) ≤ i by omega), (show (i : Int) < ps.length by omega)⟩ ?_
  refine node_ld ⟨[p.f, p.t], [], [], [p.bs.length, p.c], [p.a]⟩ (fun ids w2 hp hf => (net_elt hf.x.2 hi).2 _ (fun e => e)) (fun ids w2 hf => ⟨rfl, oneNil⟩) ?_
  refine node_net 0 [putE (ps.map Pk.d) p.d] [] rfl rfl (fun _ => rfl) H.apart (fun k h1 h2 => .inr (Or.inr ⟨h1, h2⟩)) (fun k h1 h2 h3 => h3) (fun ids w2 hp hf HA => put_any (idAt ids 0) a cap ps p.d p.a p.c w2 HA (hf.x.2.1 p hpm) (fun k hk => ?_) hb) [.sl 2 (.var 4) (.var 5)] rfl (fun _ _ _ _ => rfl) (fun _ _ _ _ => rfl) rfl (fun _ _ _ => rfl) ?_
  · have hk2 : (HX.dats ps).F k := ⟨p, hpm, fun q => hk.1 (by show bcells p.bs = []; rw [q]; rfl), hk.2⟩
    exact ⟨(HA.sep k (.inl hk2)).2, fun q => HA.apart k q.1 q.2 hk2⟩
  intro a' cap' ps' hD hap' hfr hF
  refine net_done a' cap' ps' (fun ids => ?_) (fun _ => rfl) hD hap' (fun k h1 h2 => (hfr k h1 h2).imp_right fun q => q.1) (fun k hk => .inr hk) (fun w' h => h.2) (fun k hk => (hF k hk).imp_right fun q => q.1)
  rfl
/-- What Take does where there is such a packet. -/
def TakeR (w : World) (nb : Nat) (a : Option Addr) (cap : Nat) (ps : List Pk) (i : Nat) (p : Pk) (e : Ending) (w' : World) : Prop :=
  e = .returned (.tuple #[.agg p.cells.toArray, .bool true]) ∧ Blk w' nb [.slice a (ps.eraseIdx i).length cap] 49 ∧ (netHX a cap (ps.eraseIdx i)).X w' ∧ Cells w' p.a (bcells p.bs) ∧ Chg (fun x => x = nb ∨ (cap ≠ 0 ∧ abk a = some x)) w w'
set_option maxRecDepth 100000 in
theorem take_no (nb : Nat) (a : Option Addr) (cap : Nat) (ps : List Pk) (i : Int) (w : World) (H : NetAt w nb a cap ps) (hi : ¬ (0 ≤ i ∧ i < (ps.length : Int))) :
    Calls Try.prog 12 #[.pointer (some ⟨nb, 0, none⟩), .int .i64 i] w (PureAt w (.tuple #[.agg #[.int .i64 0, .int .i64 0, .slice none 0 0], .bool false])) := by
  refine calls_at (tab_ok _) Try.func12 rfl tNTake (ρ := ⟨[i], [], [], [ps.length, cap], [a]⟩) (ids := [nb]) (hx := netHX a cap ps) (M := fun x => x = nb) rfl (Facts.initx rfl oneNil H.blk rfl rfl H.mem H.sep) ?_
  refine node_pure ⟨[], [decide (0 ≤ i ∧ i < (ps.length : Int))], [], [], []⟩ rfl rfl rfl oneNil (fun ids w2 hp hf => ?_) ?_
  · have h0 := hf.blkAt 0 rfl
    exact has_any (idAt ids 0) a cap ps.length i w2 h0
  refine br_t (show (!decide (0 ≤ i ∧ i < (ps.length : Int))) = true by rw [decide_eq_false hi]; rfl) ?_
  intro ids w2 hp hf
  have h0 := hf.blkAt 0 rfl
  rw [idAt0 hp] at h0
  exact ⟨rfl, (Chg.same hf.chg (h0.trans H.blk.symm)).below⟩
set_option maxRecDepth 100000 in
theorem take_yes (nb : Nat) (a : Option Addr) (cap : Nat) (ps : List Pk) (i : Nat) (p : Pk) (w : World) (H : NetAt w nb a cap ps) (hi : ps[i]? = some p) (hn : ps.length ≤ 1000000) :
    Calls Try.prog 12 #[.pointer (some ⟨nb, 0, none⟩), .int .i64 (i : Int)] w (TakeR w nb a cap ps i p) := by
  have hlt : i < ps.length := by
    rcases Nat.lt_or_ge i ps.length with q | q
    · exact q
    · rw [List.getElem?_eq_none q] at hi; cases hi
  have hpm := List.mem_of_getElem? hi
  have hcap : cap ≠ 0 := by have := rw_le H.mem.2; omega
  refine calls_at (tab_ok _) Try.func12 rfl tNTake (ρ := ⟨[(i : Int)], [], [], [ps.length, cap], [a]⟩) (ids := [nb]) (hx := netHX a cap ps) (M := fun x => x = nb ∨ (cap ≠ 0 ∧ abk a = some x)) rfl (Facts.initx rfl oneNil H.blk rfl (.inl rfl) H.mem H.sep) ?_
  refine node_pure ⟨[], [decide (0 ≤ (i : Int) ∧ (i : Int) < (ps.length : Int))], [], [], []⟩ rfl rfl rfl oneNil (fun ids w2 hp hf => ?_) ?_
  · have h0 := hf.blkAt 0 rfl
    exact has_any (idAt ids 0) a cap ps.length i w2 h0
  refine br_f (show (!decide (0 ≤ (i : Int) ∧ (i : Int) < (ps.length : Int))) = false by rw [decide_eq_true ⟨by omega, by omega⟩]; rfl) ?_
  refine need_i ⟨net_some H.mem hi, (show (0 : Int) ≤ i by omega), (show (i : Int) < ps.length by omega)⟩ ?_
  refine node_ld ⟨[p.f, p.t], [], [], [p.bs.length, p.c], [p.a]⟩ (fun ids w2 hp hf => (net_elt hf.x hi).2 _ (fun e => e)) (fun ids w2 hf => ⟨rfl, oneNil⟩) ?_
  intro ids w2 hp hf
  have hw1 : IntKind.i64.wrap ((i : Int) + 1) = ((i + 1 : Nat) : Int) := by rw [wrap_i64 (by omega)]; omega
  have hel : (ps.eraseIdx i).length = ps.length - 1 := by rw [List.length_eraseIdx, if_pos hlt]
  show Calls Try.prog _ #[.slice a ps.length cap, .int .i64 (i : Int), .int .i64 (IntKind.i64.wrap ((i : Int) + 1))] w2 _
  rw [hw1]
  refine (del_any a ps.length cap (pcells ps) i w2 hf.x.2 hlt hn (pcells_one ps)).mono ?_
  rintro e w' ⟨rfl, hX, g, hag, hg⟩
  rw [pcells_erase] at hX
  have hdF : ∀ k, (HX.dats (ps.eraseIdx i)).F k → (HX.dats ps).F k := fun k ⟨q, hq, h5⟩ => ⟨q, List.mem_of_mem_eraseIdx hq, h5⟩
  have hdats : (HX.dats ps).X w' := (HX.dats ps).loc w2 w' hf.x.1 fun k hk => hg.block k (hf.sep k (.inl hk)).1 fun q => H.apart k hcap (by rw [hag, q]) hk
  refine ⟨⟨[], [], [], [ps.length - 1, cap], [a]⟩, ids, (HX.dats ps).and (HX.rw 3 30 a (ps.length - 1) cap (pcells (ps.eraseIdx i))), rfl, List.prefix_refl _, hf.turn (hx' := (HX.dats ps).and (HX.rw 3 30 a (ps.length - 1) cap (pcells (ps.eraseIdx i)))) hg (fun b e => by cases e; exact ⟨.inr ⟨hcap, hag⟩, .inr (Or.inr ⟨hcap, hag⟩)⟩) ⟨hdats, hX⟩ (fun k hk => .inl hk) rfl rfl rfl oneNil, ?_⟩
  intro ids3 w3 hp3 hf3
  have h0 := hf3.blkAt 0 rfl
  rw [idAt0 (hp.trans hp3)] at h0
  refine ⟨rfl, by rw [hel]; exact h0, ⟨fun q hq => hf3.x.1 q (List.mem_of_mem_eraseIdx hq), by rw [hel]; exact hf3.x.2⟩, hf3.x.1 p hpm, hf3.chg⟩
end Go.Proofs.Yteeecfdcebcbbaa
