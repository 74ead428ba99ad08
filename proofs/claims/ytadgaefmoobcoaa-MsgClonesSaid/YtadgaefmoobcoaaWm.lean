/- MsgClones. -/
import Derived.Test.YtadgaefmoobcoaaWk
namespace Go.Proofs.Ytadgaefmoobcoaa
open Go.ChangeShapes Go.WideShapes Go.ChangeAt Go.RowKit Go.Syn Go.Eng
set_option linter.unusedVariables false
set_option linter.unusedSimpArgs false
set_option maxRecDepth 100000
abbrev tLClone7b0 : List LV := [(tVi 42), (tVi 43), (tVi 44), (tVi 45), (tVi 46), (tVi 47), (tVi 48), (tVi 49), (tVi 50), (tVi 51), (tSl 8 16 17), (tSl 9 18 19), (tSl 10 20 21), (tVi 52), (tVi 53), (tVi 54), (tVi 55), (tVi 56), (tVi 57), (tVi 58), (tVi 59), (tVi 60), (tVi 61), (tVi 62), (tSl 11 22 23)]
abbrev tLClone7b1 : List LV := [(tVi 21), (tVi 22), (tVi 23), (tVi 24), (tVi 25), (tVi 26), (tVi 27), (tVi 28), (tVi 29), (tVi 30), (tSl 4 8 9), (tSl 5 10 11), (tSl 6 12 13), (tVi 31), (tVi 32), (tVi 33), (tVi 34), (tVi 35), (tVi 36), (tVi 37), (tVi 38), (tVi 39), (tVi 40), (tVi 41), (tSl 7 14 15)]
abbrev tLClone7b2 : List LV := [(tVi 0), (tVi 1), (tVi 2), (tVi 3), (tVi 4), (tVi 5), (tVi 6), (tVi 7), (tVi 8), (tVi 9), (tSl 0 0 1), (tSl 1 2 3), (tSl 2 4 5), (tVi 10), (tVi 11), (tVi 12), (tVi 13), (tVi 14), (tVi 15), (tVi 16), (tVi 17), (tVi 18), (tVi 19), (tVi 20), (tSl 3 6 7)]
abbrev tLClone7m0 : Mem := ⟨[(37, tLClone7b2), (37, tLClone7b1), (37, tLClone7b0)], ⟨64, 0, 0, 24, 12⟩⟩
abbrev tLClone7m1 : Mem := ⟨[(37, tLClone7b2), (37, tLClone7b1), (37, tLClone7b0)], ⟨65, 0, 0, 24, 12⟩⟩
abbrev tLClone7m2 : Mem := ⟨[(37, tLClone7b2), (37, tLClone7b1), (37, tLClone7b0)], ⟨66, 0, 0, 24, 12⟩⟩
abbrev tLClone7m3 : Mem := ⟨[(37, tLClone7b2), (37, tLClone7b1), (37, tLClone7b0)], ⟨67, 0, 0, 24, 12⟩⟩
abbrev tLClone7m4 : Mem := ⟨[(37, tLClone7b2), (37, tLClone7b1), (37, tLClone7b0)], ⟨67, 0, 0, 26, 13⟩⟩
abbrev tLClone7m5 : Mem := ⟨[(37, tLClone7b2), (37, tLClone7b1), (37, tLClone7b0)], ⟨68, 0, 0, 26, 13⟩⟩
abbrev tLClone7m6 : Mem := ⟨[(37, tLClone7b2), (37, tLClone7b1), (37, tLClone7b0)], ⟨68, 0, 0, 28, 14⟩⟩
abbrev tLClone7m7 : Mem := ⟨[(37, tLClone7b2), (37, tLClone7b1), (37, tLClone7b0)], ⟨69, 0, 0, 28, 14⟩⟩
abbrev tLClone7m8 : Mem := ⟨[(37, tLClone7b2), (37, tLClone7b1), (37, tLClone7b0)], ⟨69, 0, 0, 30, 15⟩⟩
abbrev tLClone7m9 : Mem := ⟨[(37, tLClone7b2), (37, tLClone7b1), (37, tLClone7b0)], ⟨67, 1, 0, 24, 12⟩⟩
abbrev tLClone7m10 : Mem := ⟨[(37, tLClone7b2), (37, tLClone7b1), (37, tLClone7b0)], ⟨67, 2, 0, 24, 12⟩⟩
abbrev tLClone7m11 : Mem := ⟨[(37, tLClone7b2), (37, tLClone7b1), (37, tLClone7b0)], ⟨88, 2, 0, 32, 16⟩⟩
set_option maxRecDepth 100000 in
theorem tLClone7 : (runF ⟨tt, fns, { loops := [(4, ⟨[(18, .int .i64)], []⟩), (9, ⟨[(33, .int .i64)], []⟩), (14, ⟨[(47, .int .i64)], []⟩), (19, ⟨[(59, .int .i64)], []⟩), (23, ⟨[(75, .int .i64)], []⟩), (28, ⟨[(97, .int .i64)], []⟩)], cur := [4, 5, 6, 7] }⟩ (Try.f8.body.getD .skip) Try.f8.results.toList (entry Try.f8.ntmps [.agg [.int .i64 (.var 0), .int .i64 (.var 1), .int .i64 (.var 2), .int .i64 (.var 3), .int .i64 (.var 4), .int .i64 (.var 5), .int .i64 (.var 6), .int .i64 (.var 7), .int .i64 (.var 8), .int .i64 (.var 9), .sl 0 (.var 0) (.var 1), .sl 1 (.var 2) (.var 3), .sl 2 (.var 4) (.var 5), .int .i64 (.var 10), .int .i64 (.var 11), .int .i64 (.var 12), .int .i64 (.var 13), .int .i64 (.var 14), .int .i64 (.var 15), .int .i64 (.var 16), .int .i64 (.var 17), .int .i64 (.var 18), .int .i64 (.var 19), .int .i64 (.var 20), .sl 3 (.var 6) (.var 7)]] [] ⟨21, 0, 0, 8, 4⟩)) =
  (.call 11 [(.agg tLClone7b2)] ⟨[(37, tLClone7b2)], ⟨21, 0, 0, 8, 4⟩⟩ (.agg tLClone7b1) ⟨[(37, tLClone7b2)], ⟨42, 0, 0, 16, 8⟩⟩ (.call 24 [(.agg tLClone7b1)] ⟨[(37, tLClone7b2), (37, tLClone7b1)], ⟨42, 0, 0, 16, 8⟩⟩ (.agg tLClone7b0) ⟨[(37, tLClone7b2), (37, tLClone7b1)], ⟨63, 0, 0, 24, 12⟩⟩ (.loop 4 ⟨[(.lit 0)], [], [], [], []⟩ ⟨[(37, tLClone7b2), (37, tLClone7b1), (37, tLClone7b0)], ⟨63, 0, 0, 24, 12⟩⟩ tLClone7m0 (.br (.cmp .lss (.var 63) (.nat 14)) (.need (.inb 7 (.var 63) (.nat 14)) (.ld .true (.adr 7 (.var 63) 1 0) [(.int .u8 (.var 64))] tLClone7m0 tLClone7m1 (.need (.inb 7 (.var 63) (.nat 14)) (.gen (.store 5 (.tmp 27) (.tmp 26)) 0 [(27, (.lf (.adr 7 (.var 63) 1 0))), (26, (.lf (.int .u8 (.op .xor .u8 (.var 64) (.lit 255)))))] tLClone7m1 .none tLClone7m1 (.again 4 ⟨[(.op .add .i64 (.var 63) (.lit 1))], [], [], [], []⟩ tLClone7m1))))) (.loop 9 ⟨[(.lit 0)], [], [], [], []⟩ tLClone7m0 tLClone7m1 (.br (.cmp .lss (.var 64) (.nat 8)) (.need (.inb 4 (.var 64) (.nat 8)) (.gen (.store 3 (.tmp 41) (.const (.int .i64 (-1)))) 0 [(41, (.lf (.adr 4 (.var 64) 8 1)))] tLClone7m1 .none tLClone7m1 (.again 9 ⟨[(.op .add .i64 (.var 64) (.lit 1))], [], [], [], []⟩ tLClone7m1))) (.loop 14 ⟨[(.lit 0)], [], [], [], []⟩ tLClone7m1 tLClone7m2 (.br (.cmp .lss (.var 65) (.nat 10)) (.need (.inb 5 (.var 65) (.nat 10)) (.gen (.store 3 (.tmp 54) (.const (.int .i64 (-1)))) 0 [(54, (.lf (.adr 5 (.var 65) 1 0)))] tLClone7m2 .none tLClone7m2 (.again 14 ⟨[(.op .add .i64 (.var 65) (.lit 1))], [], [], [], []⟩ tLClone7m2))) (.loop 19 ⟨[(.lit 0)], [], [], [], []⟩ tLClone7m2 tLClone7m3 (.br (.cmp .lss (.var 66) (.nat 12)) (.need (.inb 6 (.var 66) (.nat 12)) (.gen (.store 3 (.tmp 66) (.const (.int .i64 (-1)))) 0 [(66, (.lf (.adr 6 (.var 66) 6 0)))] tLClone7m3 .none tLClone7m3 (.need (.inb 6 (.var 66) (.nat 12)) (.ld .true (.adr 6 (.var 66) 6 4) [(tSl 12 24 25)] tLClone7m3 tLClone7m4 (.loop 23 ⟨[(.lit 0)], [], [], [], []⟩ tLClone7m4 tLClone7m5 (.br (.cmp .lss (.var 67) (.nat 24)) (.need (.inb 6 (.var 66) (.nat 12)) (.ld .true (.adr 6 (.var 66) 6 4) [(tSl 13 26 27)] tLClone7m5 tLClone7m6 (.need (.inb 13 (.var 67) (.nat 26)) (.gen (.store 3 (.tmp 87) (.const (.int .i64 (-1)))) 0 [(87, (.lf (.adr 13 (.var 67) 8 1)))] tLClone7m6 .none tLClone7m6 (.again 23 ⟨[(.op .add .i64 (.var 67) (.lit 1))], [], [], [], []⟩ tLClone7m6))))) (.need (.inb 6 (.var 66) (.nat 12)) (.ld .true (.adr 6 (.var 66) 6 5) [(tSl 13 26 27)] tLClone7m5 tLClone7m6 (.loop 28 ⟨[(.lit 0)], [], [], [], []⟩ tLClone7m6 tLClone7m7 (.br (.cmp .lss (.var 68) (.nat 26)) (.need (.inb 6 (.var 66) (.nat 12)) (.ld .true (.adr 6 (.var 66) 6 5) [(tSl 14 28 29)] tLClone7m7 tLClone7m8 (.need (.inb 14 (.var 68) (.nat 28)) (.gen (.store 3 (.tmp 108) (.const (.int .i64 (-1)))) 0 [(108, (.lf (.adr 14 (.var 68) 1 0)))] tLClone7m8 .none tLClone7m8 (.again 28 ⟨[(.op .add .i64 (.var 68) (.lit 1))], [], [], [], []⟩ tLClone7m8))))) (.again 19 ⟨[(.op .add .i64 (.var 66) (.lit 1))], [], [], [], []⟩ tLClone7m7))))))))))) (.call 9 [] tLClone7m3 (.lf (.bool (.var 0))) tLClone7m9 (.br (.var 0) (.call 17 [(.agg tLClone7b0), (.agg tLClone7b2)] tLClone7m9 (.lf (.bool (.var 1))) tLClone7m10 (.br (.var 1) (.call 24 [(.agg [(tLi 5), (tLi 0), (tLi 0), (tLi 0), (tLi 0), (tLi 0), (tLi 0), (tLi 0), (tLi 0), (tLi 0), .nilsl, .nilsl, .nilsl, (tLi 0), (tLi 0), (tLi 0), (tLi 0), (tLi 0), (tLi 0), (tLi 0), (tLi 0), (tLi 0), (tLi 0), (tLi 0), .nilsl])] tLClone7m10 (.agg [(tVi 67), (tVi 68), (tVi 69), (tVi 70), (tVi 71), (tVi 72), (tVi 73), (tVi 74), (tVi 75), (tVi 76), (tSl 12 24 25), (tSl 13 26 27), (tSl 14 28 29), (tVi 77), (tVi 78), (tVi 79), (tVi 80), (tVi 81), (tVi 82), (tVi 83), (tVi 84), (tVi 85), (tVi 86), (tVi 87), (tSl 15 30 31)]) tLClone7m11 (.done (.lf (.bool (.cmp .eql (.var 67) (.lit 5)))) tLClone7m11)) (.done (.lf (.bool (.lit .false))) tLClone7m10))) (.done (.lf (.bool (.lit .false))) tLClone7m9))))))))))))) := by kernel_rfl
section
variable {C : Cfg} {ρ : Env} {pre : List Nat} {hx : HX} {L : Stack} {m m' : Mem} {args : List SV} {r : SV} {t : Tree}
/-- A read whose answer is known to be of a kind. -/
theorem node_ldE {l : LV} {cs : List LV} (J : Vals → Prop) (hcell : ∀ ids w, pre <+: ids → Facts C m ρ ids hx w → ∃ vs, J vs ∧ CellsAt w (l.den ρ ids) (cellsDen (ρ.add vs) ids cs) (fun _ => False)) (hc : ∀ vs, J vs → (ρ.add vs).cnt = m'.c ∧ ∀ v, v ∈ vs.v → v.oneCell' = true)
    (h : ∀ vs, J vs → t.holds C (ρ.add vs) pre hx L) : (Tree.ld true l cs m m' t).holds C ρ pre hx L := fun ids w hp hf => by
  obtain ⟨vs, hJ, h1⟩ := hcell ids w hp hf
  exact ⟨vs, h1, envUp hf (hc vs hJ).1 (hc vs hJ).2, holds_pre t hp (h vs hJ)⟩
theorem node_cln (hP : C.P = Try.prog) (x : Ms) (hw : MsFit x) (hl : x.vs.length * 80 ≤ 140737488355328) (hd : x.d.length ≤ 140737488355328) (hat : ∀ ids w, pre <+: ids → Facts C m ρ ids hx w → x.X.X w) (hargs : ∀ ids, (args.map (SV.den ρ ids)).toArray = #[x.val]) (hr : ∀ (y : Ms) ids, r.den (ρ.add y.vals) ids = y.val) (hhp : m'.hp = m.hp) (hft : hpFits m.c m.hp.length m.hp = true) (hc : ∀ y : Ms, (ρ.add y.vals).cnt = m'.c)
    (h : ∀ y : Ms, y.con = x.con → (∀ k, y.X.F k → C.W.heap.size ≤ k ∧ ¬ hx.F k) → t.holds C (ρ.add y.vals) pre (hx.and y.X) L) : (Tree.call 24 args m r m' t).holds C ρ pre hx L := by
  refine node_out (fun _ => #[x.val]) (fun vs h' => ∃ y : Ms, y.con = x.con ∧ vs = y.vals ∧ h' = y.X) hargs (fun ids w hp hf => ?_) hhp hft ?_ ?_
  · rw [hP]
    refine (clone7_any x w (hat ids w hp hf) hw hl hd).mono ?_
    rintro e w' ⟨y, rfl, g1, g2, g3, g4⟩
    exact ⟨_, _, ⟨y, g1, rfl, rfl⟩, by rw [hr], g2, g3, g4⟩
  · rintro vs h' ⟨y, _, rfl, rfl⟩; exact ⟨hc y, oneNil⟩
  · rintro vs h' ⟨y, e, rfl, rfl⟩ hfr; exact h y e hfr
end
theorem wr_some {r : Wr} {w : World} (h : r.hx.X w) (hn : 0 < r.n) : r.a.isSome = true := by
  obtain ⟨xs, _, _, hX⟩ := Wr.open h
  exact rw_some hX hn
/-- What is read of a vote's places. -/
theorem vr_read {m : Ms} {w : World} (h : (wilds m.wl).X w) {k : Nat} {x : Vo Pv} (hk : m.vs[k]? = some x) (o : Nat) (u : Value) (hu : ∀ y : Vo Pv, y.v = x.v → (voC y)[o]? = some u) : CellsAt w (.pointer (some (((m.av.getD ⟨0, 0, none⟩).add (k * 6)).add o))) [u] (fun _ => False) := by
  obtain ⟨xs, hl, ⟨ys, rfl, hys⟩, hX⟩ := Wr.open (wilds_get wl_v h)
  have hX : Cells w m.av (vocs ys) := rw_cells hX
  have h2 : (ys.map Vo.v)[k]? = some x.v := by rw [hys, List.getElem?_map, hk]; rfl
  rw [List.getElem?_map] at h2
  obtain ⟨y, hy, e⟩ := Option.map_eq_some_iff.1 h2
  exact (flat_part voc_len hX hy (o := o) [u] (fun j v hj => by
    cases j with
    | zero => rw [Nat.add_zero, hu y e]; exact hj
    | succ j => cases hj) (by simp)).2 _ id
def m5 : Ms := { mz with k := 5 }
theorem m5_X (w : World) : m5.X.X w := mz_X w
set_option maxHeartbeats 4000000 in
theorem clones_walk (m : Ms) (w : World) (H : m.X.X w) (hw : MsWf m) (hl : m.vs.length * 80 ≤ 140737488355328) :
    Calls Try.prog 8 #[m.val] w (PureAt w (.bool true)) := by
  obtain ⟨B, eB⟩ : ∃ x, x = m.X := ⟨_, rfl⟩
  have BX : ∀ {w}, B.X w → m.X.X w := fun h => by rw [← eB]; exact h
  refine calls_at (tab_ok _) Try.func8 rfl tLClone7 (ρ := ⟨m.ints, [], [], m.nats, m.adrs⟩) (ids := []) (hx := B) rfl (Facts.initq rfl oneNil (by rw [eB]; exact H) (by rw [eB]; exact Ms.X_sep H)) ?_
  refine node_cpm rfl m hw.fit hl hw.dl (fun ids w2 hp hf => BX hf.x) (by intros; kernel_rfl) (by intros; kernel_rfl) (by kernel_rfl) (by kernel_rfl) (by intros; kernel_rfl) ?_
  intro y hy fy
  have hyw := hw.of hy
  have hyl : y.vs.length * 80 ≤ 140737488355328 := by rw [len_of hy]; exact hl
  refine node_cln rfl y hyw.fit hyl hyw.dl (fun ids w2 hp hf => R_X hf.x.2) (by intros; kernel_rfl) (by intros; kernel_rfl) (by kernel_rfl) (by kernel_rfl) (by intros; kernel_rfl) ?_
  intro c hc fc
  have hcm : c.con = m.con := hc.trans hy
  have hcw := hw.of hcm
  obtain ⟨S, eS⟩ : ∃ x, x = B.and c.X := ⟨_, rfl⟩
  obtain ⟨G, eG⟩ : ∃ x, x = S.and (wilds y.wl) := ⟨_, rfl⟩
  refine holds_sub (hx' := G) _ (fun w h => by rw [eG, eS]; exact ⟨⟨h.1.1, h.2⟩, wl_X h.1.2⟩) (fun k hk => by
    rw [eG, eS] at hk
    rcases hk with (hk | hk) | hk
    · exact .inl (.inl hk)
    · exact .inr hk
    · exact .inl (.inr (wl_F hk))) ?_
  have own : ∀ k, y.R.F k → w.heap.size ≤ k ∧ ¬ S.F k := fun k hk => ⟨(fy k hk).1, fun q => by
    rw [eS] at q
    rcases q with q | q
    · exact (fy k hk).2 q
    · exact (fc k q).2 (.inr hk)⟩
  have ownW : ∀ r ∈ y.wl, ∀ k, r.cap ≠ 0 → abk r.a = some k → w.heap.size ≤ k ∧ ¬ S.F k := fun r hr k h1 h2 => own k (wl_F ⟨_, List.mem_map.2 ⟨r, hr, rfl⟩, h1, h2⟩)
  have GX : ∀ {w}, G.X w → S.X w ∧ (wilds y.wl).X w := fun h => by rw [eG] at h; exact h
  have wr : ∀ k : Nat, k < 4611686018427387904 → IntKind.i64.wrap ((k : Int) + 1) = ((k + 1 : Nat) : Int) := fun k h => by rw [wrap_i64 (by omega)]; omega
  have ld := hyw.dl
  have l1 := hyw.v.f.l1
  have l2 := hyw.v.f.l2
  -- the bytes
  refine ⟨fun vs hx n => ∃ k : Nat, n = y.d.length - k ∧ k ≤ y.d.length ∧ vs = ⟨[(k : Int)], [], [], [], []⟩ ∧ (0 < y.d.length → y.ad.isSome = true) ∧ G = hx, fun ids w2 hp hf => ⟨_, y.d.length, ⟨hf.x, hf.sep⟩, 0, rfl, Nat.zero_le _, by kernel_rfl, fun h => wr_some (wilds_get wl_d (GX hf.x).2) h, rfl⟩, ?_⟩
  rintro vs hx' n hcnt ⟨k, rfl, hk, rfl, hsm, rfl⟩
  refine br_D (p := (k : Int) < (y.d.length : Int)) (by kernel_rfl) (fun hlt => ?_) (fun _ => ?_)
  · have hlt : k < y.d.length := by omega
    refine need_k (y.ad.isSome = true ∧ 0 ≤ (k : Int) ∧ (k : Int) < (y.d.length : Int)) (by kernel_rfl) ⟨hsm (by omega), by omega, by omega⟩ ?_
    refine node_ldE (fun vs => ∃ b : Int, vs = ⟨[b], [], [], [], []⟩) (fun ids w2 hp hf => ?_) (fun vs ⟨b, e⟩ => by subst e; exact ⟨by kernel_rfl, oneNil⟩) ?_
    · obtain ⟨xs, hl, ⟨bs, rfl⟩, hX⟩ := Wr.open (wilds_get wl_d (GX hf.x).2)
      have hl : (bcells bs).length = y.d.length * 1 := hl
      rw [bcells_len, Nat.mul_one] at hl
      obtain ⟨b, hb⟩ : ∃ b, bs[k]? = some b := ⟨_, List.getElem?_eq_getElem (by omega)⟩
      obtain ⟨s1, c1⟩ := b_elt (rw_cells hX) hb
      exact ⟨_, ⟨b, rfl⟩, c1 _ (fun e => e)⟩
    rintro vs ⟨b, rfl⟩
    refine need_k (y.ad.isSome = true ∧ 0 ≤ (k : Int) ∧ (k : Int) < (y.d.length : Int)) (by kernel_rfl) ⟨hsm (by omega), by omega, by omega⟩ ?_
    rw [eG]
    refine node_wst y.wl (drW y) wl_d k 0 (.int .u8 (ifn .xor .u8 b 255)) (by kernel_rfl) (by intros; kernel_rfl) (by intros; kernel_rfl) rfl rfl (by show k * 1 + 0 < y.d.length * 1; omega) st_byte (fun j h1 h2 => (ownW _ wl_d j h1 h2).2) (fun j h1 h2 => .inl (ownW _ wl_d j h1 h2).1) (by kernel_rfl) (by kernel_rfl) (by kernel_rfl) ?_
    exact again_V ⟨[IntKind.i64.wrap ((k : Int) + 1)], [], [], [], []⟩ rfl (by intros; kernel_rfl) _ (fun w2 ids hf => ⟨hf.x, hf.sep⟩) ⟨y.d.length - (k + 1), by omega, k + 1, rfl, by omega, (by rw [wr k (by omega)]), hsm, rfl⟩
  clear hk hsm
  -- the value's commands
  refine ⟨fun vs hx n => ∃ k : Nat, n = y.p.v.cs.length - k ∧ k ≤ y.p.v.cs.length ∧ vs = ⟨[(k : Int)], [], [], [], []⟩ ∧ (0 < y.p.v.cs.length → y.p.a1.isSome = true) ∧ G = hx, fun ids w2 hp hf => ⟨_, y.p.v.cs.length, ⟨hf.x, hf.sep⟩, 0, rfl, Nat.zero_le _, by kernel_rfl, fun h => wr_some (wilds_get wl_c (GX hf.x).2) h, rfl⟩, ?_⟩
  rintro vs hx' n hcnt ⟨k2, rfl, hk, rfl, hsm, rfl⟩
  refine br_D (p := (k2 : Int) < (y.p.v.cs.length : Int)) (by kernel_rfl) (fun hlt => ?_) (fun _ => ?_)
  · have hlt : k2 < y.p.v.cs.length := by omega
    refine need_k (y.p.a1.isSome = true ∧ 0 ≤ (k2 : Int) ∧ (k2 : Int) < (y.p.v.cs.length : Int)) (by kernel_rfl) ⟨hsm (by omega), by omega, by omega⟩ ?_
    rw [eG]
    refine node_wst y.wl (crW y.p) wl_c k2 1 (.int .i64 (-1)) (by kernel_rfl) (by intros; kernel_rfl) (by intros; kernel_rfl) rfl rfl (by show k2 * 8 + 1 < y.p.v.cs.length * 8; omega) st_cmd (fun j h1 h2 => (ownW _ wl_c j h1 h2).2) (fun j h1 h2 => .inl (ownW _ wl_c j h1 h2).1) (by kernel_rfl) (by kernel_rfl) (by kernel_rfl) ?_
    exact again_V ⟨[IntKind.i64.wrap ((k2 : Int) + 1)], [], [], [], []⟩ rfl (by intros; kernel_rfl) _ (fun w2 ids hf => ⟨hf.x, hf.sep⟩) ⟨y.p.v.cs.length - (k2 + 1), by omega, k2 + 1, rfl, by omega, (by rw [wr k2 (by omega)]), hsm, rfl⟩
  clear hk hsm
  -- the value's numbers
  refine ⟨fun vs hx n => ∃ k : Nat, n = y.p.v.ns.length - k ∧ k ≤ y.p.v.ns.length ∧ vs = ⟨[(k : Int)], [], [], [], []⟩ ∧ (0 < y.p.v.ns.length → y.p.a2.isSome = true) ∧ G = hx, fun ids w2 hp hf => ⟨_, y.p.v.ns.length, ⟨hf.x, hf.sep⟩, 0, rfl, Nat.zero_le _, by kernel_rfl, fun h => wr_some (wilds_get wl_n (GX hf.x).2) h, rfl⟩, ?_⟩
  rintro vs hx' n hcnt ⟨k3, rfl, hk, rfl, hsm, rfl⟩
  refine br_D (p := (k3 : Int) < (y.p.v.ns.length : Int)) (by kernel_rfl) (fun hlt => ?_) (fun _ => ?_)
  · have hlt : k3 < y.p.v.ns.length := by omega
    refine need_k (y.p.a2.isSome = true ∧ 0 ≤ (k3 : Int) ∧ (k3 : Int) < (y.p.v.ns.length : Int)) (by kernel_rfl) ⟨hsm (by omega), by omega, by omega⟩ ?_
    rw [eG]
    refine node_wst y.wl (nrW y.p) wl_n k3 0 (.int .i64 (-1)) (by kernel_rfl) (by intros; kernel_rfl) (by intros; kernel_rfl) rfl rfl (by show k3 * 1 + 0 < y.p.v.ns.length * 1; omega) st_int (fun j h1 h2 => (ownW _ wl_n j h1 h2).2) (fun j h1 h2 => .inl (ownW _ wl_n j h1 h2).1) (by kernel_rfl) (by kernel_rfl) (by kernel_rfl) ?_
    exact again_V ⟨[IntKind.i64.wrap ((k3 : Int) + 1)], [], [], [], []⟩ rfl (by intros; kernel_rfl) _ (fun w2 ids hf => ⟨hf.x, hf.sep⟩) ⟨y.p.v.ns.length - (k3 + 1), by omega, k3 + 1, rfl, by omega, (by rw [wr k3 (by omega)]), hsm, rfl⟩
  clear hk hsm
  -- the votes
  refine ⟨fun vs hx n => ∃ k : Nat, n = y.vs.length - k ∧ k ≤ y.vs.length ∧ vs = ⟨[(k : Int)], [], [], [], []⟩ ∧ (0 < y.vs.length → y.av.isSome = true) ∧ G = hx, fun ids w2 hp hf => ⟨_, y.vs.length, ⟨hf.x, hf.sep⟩, 0, rfl, Nat.zero_le _, by kernel_rfl, fun h => wr_some (wilds_get wl_v (GX hf.x).2) h, rfl⟩, ?_⟩
  rintro vs hx' n hcnt ⟨k4, rfl, hk, rfl, hsm, rfl⟩
  refine br_D (p := (k4 : Int) < (y.vs.length : Int)) (by kernel_rfl) (fun hlt => ?_) (fun _ => ?_)
  · have hlt : k4 < y.vs.length := by omega
    obtain ⟨x, hx⟩ : ∃ b, y.vs[k4]? = some b := ⟨_, List.getElem?_eq_getElem hlt⟩
    have hxm := List.mem_of_getElem? hx
    have hxw := (hyw.vs x hxm).v.f
    have x1 := hxw.l1
    have x2 := hxw.l2
    have nd : y.av.isSome = true ∧ 0 ≤ (k4 : Int) ∧ (k4 : Int) < (y.vs.length : Int) := ⟨hsm (by omega), by omega, by omega⟩
    refine need_k (y.av.isSome = true ∧ 0 ≤ (k4 : Int) ∧ (k4 : Int) < (y.vs.length : Int)) (by kernel_rfl) nd ?_
    rw [eG]
    refine node_wst y.wl (vrW y) wl_v k4 0 (.int .i64 (-1)) (by kernel_rfl) (by intros; kernel_rfl) (by intros; kernel_rfl) rfl rfl (by show k4 * 6 + 0 < y.vs.length * 6; omega) st_vote (fun j h1 h2 => (ownW _ wl_v j h1 h2).2) (fun j h1 h2 => .inl (ownW _ wl_v j h1 h2).1) (by kernel_rfl) (by kernel_rfl) (by kernel_rfl) ?_
    rw [← eG]
    refine need_k (y.av.isSome = true ∧ 0 ≤ (k4 : Int) ∧ (k4 : Int) < (y.vs.length : Int)) (by kernel_rfl) nd ?_
    refine node_ldk ⟨[], [], [], [x.v.v.cs.length, x.v.c1], [x.v.a1]⟩ (fun _ => .pointer (some (((y.av.getD ⟨0, 0, none⟩).add (k4 * 6)).add 4))) [.slice x.v.a1 x.v.v.cs.length x.v.c1] (by intros; kernel_rfl) (by intros; kernel_rfl) (fun ids w2 hp hf => vr_read (GX hf.x).2 hx 4 _ (fun z e => by simp only [voC]; rw [e]; rfl)) (by kernel_rfl) oneNil ?_
    refine ⟨fun vs hx n => ∃ k : Nat, n = x.v.v.cs.length - k ∧ k ≤ x.v.v.cs.length ∧ vs = ⟨[(k : Int)], [], [], [], []⟩ ∧ (0 < x.v.v.cs.length → x.v.a1.isSome = true) ∧ G = hx, fun ids w2 hp hf => ⟨_, x.v.v.cs.length, ⟨hf.x, hf.sep⟩, 0, rfl, Nat.zero_le _, by kernel_rfl, fun h => wr_some (wilds_get (wl_xc hxm) (GX hf.x).2) h, rfl⟩, ?_⟩
    rintro vs hx' n hcnt ⟨k5, rfl, hk5, rfl, hsm5, rfl⟩
    refine br_D (p := (k5 : Int) < (x.v.v.cs.length : Int)) (by kernel_rfl) (fun hlt5 => ?_) (fun _ => ?_)
    · have hlt5 : k5 < x.v.v.cs.length := by omega
      refine need_k (y.av.isSome = true ∧ 0 ≤ (k4 : Int) ∧ (k4 : Int) < (y.vs.length : Int)) (by kernel_rfl) nd ?_
      refine node_ldk ⟨[], [], [], [x.v.v.cs.length, x.v.c1], [x.v.a1]⟩ (fun _ => .pointer (some (((y.av.getD ⟨0, 0, none⟩).add (k4 * 6)).add 4))) [.slice x.v.a1 x.v.v.cs.length x.v.c1] (by intros; kernel_rfl) (by intros; kernel_rfl) (fun ids w2 hp hf => vr_read (GX hf.x).2 hx 4 _ (fun z e => by simp only [voC]; rw [e]; rfl)) (by kernel_rfl) oneNil ?_
      refine need_k (x.v.a1.isSome = true ∧ 0 ≤ (k5 : Int) ∧ (k5 : Int) < (x.v.v.cs.length : Int)) (by kernel_rfl) ⟨hsm5 (by omega), by omega, by omega⟩ ?_
      rw [eG]
      refine node_wst y.wl (crW x.v) (wl_xc hxm) k5 1 (.int .i64 (-1)) (by kernel_rfl) (by intros; kernel_rfl) (by intros; kernel_rfl) rfl rfl (by show k5 * 8 + 1 < x.v.v.cs.length * 8; omega) st_cmd (fun j h1 h2 => (ownW _ (wl_xc hxm) j h1 h2).2) (fun j h1 h2 => .inl (ownW _ (wl_xc hxm) j h1 h2).1) (by kernel_rfl) (by kernel_rfl) (by kernel_rfl) ?_
      exact again_V ⟨[IntKind.i64.wrap ((k5 : Int) + 1)], [], [], [], []⟩ rfl (by intros; kernel_rfl) _ (fun w2 ids hf => ⟨hf.x, hf.sep⟩) ⟨x.v.v.cs.length - (k5 + 1), by omega, k5 + 1, rfl, by omega, (by rw [wr k5 (by omega)]), hsm5, rfl⟩
    refine need_k (y.av.isSome = true ∧ 0 ≤ (k4 : Int) ∧ (k4 : Int) < (y.vs.length : Int)) (by kernel_rfl) nd ?_
    refine node_ldk ⟨[], [], [], [x.v.v.ns.length, x.v.c2], [x.v.a2]⟩ (fun _ => .pointer (some (((y.av.getD ⟨0, 0, none⟩).add (k4 * 6)).add 5))) [.slice x.v.a2 x.v.v.ns.length x.v.c2] (by intros; kernel_rfl) (by intros; kernel_rfl) (fun ids w2 hp hf => vr_read (GX hf.x).2 hx 5 _ (fun z e => by simp only [voC]; rw [e]; rfl)) (by kernel_rfl) oneNil ?_
    refine ⟨fun vs hx n => ∃ k : Nat, n = x.v.v.ns.length - k ∧ k ≤ x.v.v.ns.length ∧ vs = ⟨[(k : Int)], [], [], [], []⟩ ∧ (0 < x.v.v.ns.length → x.v.a2.isSome = true) ∧ G = hx, fun ids w2 hp hf => ⟨_, x.v.v.ns.length, ⟨hf.x, hf.sep⟩, 0, rfl, Nat.zero_le _, by kernel_rfl, fun h => wr_some (wilds_get (wl_xn hxm) (GX hf.x).2) h, rfl⟩, ?_⟩
    rintro vs hx' n hcnt ⟨k6, rfl, hk6, rfl, hsm6, rfl⟩
    refine br_D (p := (k6 : Int) < (x.v.v.ns.length : Int)) (by kernel_rfl) (fun hlt6 => ?_) (fun _ => ?_)
    · have hlt6 : k6 < x.v.v.ns.length := by omega
      refine need_k (y.av.isSome = true ∧ 0 ≤ (k4 : Int) ∧ (k4 : Int) < (y.vs.length : Int)) (by kernel_rfl) nd ?_
      refine node_ldk ⟨[], [], [], [x.v.v.ns.length, x.v.c2], [x.v.a2]⟩ (fun _ => .pointer (some (((y.av.getD ⟨0, 0, none⟩).add (k4 * 6)).add 5))) [.slice x.v.a2 x.v.v.ns.length x.v.c2] (by intros; kernel_rfl) (by intros; kernel_rfl) (fun ids w2 hp hf => vr_read (GX hf.x).2 hx 5 _ (fun z e => by simp only [voC]; rw [e]; rfl)) (by kernel_rfl) oneNil ?_
      refine need_k (x.v.a2.isSome = true ∧ 0 ≤ (k6 : Int) ∧ (k6 : Int) < (x.v.v.ns.length : Int)) (by kernel_rfl) ⟨hsm6 (by omega), by omega, by omega⟩ ?_
      rw [eG]
      refine node_wst y.wl (nrW x.v) (wl_xn hxm) k6 0 (.int .i64 (-1)) (by kernel_rfl) (by intros; kernel_rfl) (by intros; kernel_rfl) rfl rfl (by show k6 * 1 + 0 < x.v.v.ns.length * 1; omega) st_int (fun j h1 h2 => (ownW _ (wl_xn hxm) j h1 h2).2) (fun j h1 h2 => .inl (ownW _ (wl_xn hxm) j h1 h2).1) (by kernel_rfl) (by kernel_rfl) (by kernel_rfl) ?_
      exact again_V ⟨[IntKind.i64.wrap ((k6 : Int) + 1)], [], [], [], []⟩ rfl (by intros; kernel_rfl) _ (fun w2 ids hf => ⟨hf.x, hf.sep⟩) ⟨x.v.v.ns.length - (k6 + 1), by omega, k6 + 1, rfl, by omega, (by rw [wr k6 (by omega)]), hsm6, rfl⟩
    exact again_V ⟨[IntKind.i64.wrap ((k4 : Int) + 1)], [], [], [], []⟩ rfl (by intros; kernel_rfl) _ (fun w2 ids hf => ⟨hf.x, hf.sep⟩) ⟨y.vs.length - (k4 + 1), by omega, k4 + 1, rfl, by omega, (by rw [wr k4 (by omega)]), hsm, rfl⟩
  -- the end
  refine node_P ⟨[], [true], [], [], []⟩ #[] (.bool true) (by intros; kernel_rfl) (by intros; kernel_rfl) (by kernel_rfl) (by kernel_rfl) (by kernel_rfl) oneNil (fun ids w2 hp hf => head7_any w2) ?_
  refine br_T true (by kernel_rfl) rfl ?_
  refine node_PI ⟨[], [true], [], [], []⟩ (fun _ => #[c.val, m.val]) (.bool true) (by intros; kernel_rfl) (by intros; kernel_rfl) (by kernel_rfl) (by kernel_rfl) (by kernel_rfl) oneNil (fun ids w2 hp hf => by
    have h := (GX hf.x).1
    rw [eS] at h
    have := rsame7_any c m w2 h.2 (BX h.1) hcw hw
    rw [mcSame_t hcm] at this
    exact this) ?_
  refine br_T true (by kernel_rfl) rfl ?_
  refine node_cln rfl m5 ⟨mz_wf.fit.v, mz_wf.fit.vs⟩ (by decide) (by decide) (fun ids w2 hp hf => m5_X w2) (by intros; kernel_rfl) (by intros; kernel_rfl) (by kernel_rfl) (by kernel_rfl) (by intros; kernel_rfl) ?_
  intro o ho _
  have ho5 : o.k = 5 := congrArg Mc.k ho
  refine pure_out (fun _ => id) (fun ids => ?_)
  have : (o.k == 5) = true := by rw [ho5]; rfl
  exact congrArg Value.bool this
theorem clones_args (x : Dat) (w : World) (hx : x.In Try.prog w 37) : Calls Try.prog 8 #[.agg x.cells.toArray] w (PureAt w (.bool true)) := by
  obtain ⟨m, e, H, hw, hl⟩ := opn_ms hx
  rw [ms_arg e]
  exact clones_walk m w H hw hl
end Go.Proofs.Ytadgaefmoobcoaa
