/- ValueCodes. -/
import Derived.Test.YticacnankpaohaaQv6
import Derived.Test.YticacnankpaohaaVL4
namespace Go.Proofs.Yticacnankpaohaa
open Go.ChangeShapes Go.WideShapes Go.ChangeAt Go.RowKit Go.Syn Go.Eng
set_option linter.unusedVariables false
set_option linter.unusedSimpArgs false
set_option maxRecDepth 100000
def CoI (B : HX) (n : Nat) (a : Option Addr) (c : Nat) (vs : Vals) (hx : HX) : Prop := ∃ (k : Nat) (d : List Int), k ≤ n ∧ d.length = n ∧ vs = ⟨[(k : Int)], [], [], [], []⟩ ∧ hx = B.and (frow a c d)
theorem frow_spl {a : Option Addr} {c k : Nat} {d : List Int} {z : Int} (h : k < d.length) : HX.rw 1 5 a d.length c (spl (bcells d) (k * 1 + 0) [.int .u8 z]) = frow a c (d.take k ++ z :: d.drop (k + 1)) := by
  have e1 : spl (bcells d) (k * 1 + 0) [.int .u8 z] = bcells (d.take k ++ z :: d.drop (k + 1)) := by
    unfold spl bcells
    rw [List.map_append, List.map_cons, List.map_drop, List.map_take]
    simp
  have e2 : (d.take k ++ z :: d.drop (k + 1)).length = d.length := by rw [List.length_append, List.length_cons, List.length_take, List.length_drop]; omega
  unfold frow
  rw [e1, e2]
set_option maxHeartbeats 4000000 in
theorem codes_walk (v : Vl) (a1 : Option Addr) (c1 : Nat) (a2 : Option Addr) (c2 : Nat) (a : Option Addr) (cap : Nat) (bs : List Int) (w : World) (H : VlAt w v a1 a2) (hv : VlWf v) (HB : Cells w a (bcells bs)) (hb : Byt bs) (hl : bs.length ≤ 140737488355328) (hlc : bs.length ≤ cap) :
    Calls Try.prog 4 #[vlV v a1 c1 a2 c2, .slice a bs.length cap] w (PureAt w (.bool true)) := by
  have lv := encB_len hv
  refine calls_at (tab_ok _) Try.func4 rfl tLCodes (ρ := ⟨[v.k], [], [], [v.cs.length, c1, v.ns.length, c2, bs.length, cap], [a1, a2, a]⟩) (ids := []) (hx := (vlX v a1 a2).and (HX.cl a (bcells bs))) rfl (Facts.initq rfl oneNil ⟨H.X, HB⟩ (fun k hk => hk.elim (vlX_sep H.X k) (cl_sep HB k))) ?_
  obtain ⟨dv, edv⟩ : ∃ x, x = decV bs := ⟨_, rfl⟩
  obtain ⟨de, ede⟩ : ∃ x, x = decE bs := ⟨_, rfl⟩
  obtain ⟨xb, exb⟩ : ∃ x, x = encB v := ⟨_, rfl⟩
  obtain ⟨ve, eve⟩ : ∃ x, x = valE v := ⟨_, rfl⟩
  obtain ⟨B0, eB0⟩ : ∃ x, x = (vlX v a1 a2).and (HX.cl a (bcells bs)) := ⟨_, rfl⟩
  have B1 : ∀ {w}, B0.X w → VlAt w v a1 a2 := fun h => by rw [eB0] at h; exact hv.f.at_ h.1
  have B2 : ∀ {w}, B0.X w → Qb w a bs := fun h => by rw [eB0] at h; exact ⟨h.2, hb, hl⟩
  have hdv : VlWf dv := by rw [edv]; exact dec_wf hb
  rw [← eB0]
  rw [← exb] at lv
  refine node_pure ⟨[], [true], [], [], []⟩ rfl rfl rfl oneNil (fun ids w2 hp hf => head_any w2) ?_
  refine br_f rfl ?_
  refine node_P ⟨[ve], [], [], [], []⟩ #[vlV v a1 c1 a2 c2] (.int .i64 ve) (by intros; kernel_rfl) (by intros; kernel_rfl) (by intros; kernel_rfl) (by intros; kernel_rfl) (by intros; kernel_rfl) oneNil (fun ids w2 hp hf => by rw [eve]; exact rchk_any v a1 c1 a2 c2 w2 (B1 hf.x)) ?_
  refine node_vl (V := id) (v := v) (fun _ => #[vlV v a1 c1 a2 c2]) (fun a1 c1 a2 c2 => ⟨[v.k], [], [], [v.cs.length, c1, v.ns.length, c2], [a1, a2]⟩) (by intros; kernel_rfl) (fun ids w2 hp hf => cpvl_any v a1 c1 a2 c2 w2 (B1 hf.x)) (by intros; kernel_rfl) (by intros; kernel_rfl) (by intros; kernel_rfl) (by intros; kernel_rfl) (fun _ _ _ _ => oneNil) ?_
  intro x1 y1 x2 y2 _
  refine node_newi (V := fun s => .tuple #[s, .int .i64 ve]) (bs := xb) (fun ids => #[vlV v x1 y1 x2 y2]) (fun a' c' => ⟨[ve], [], [], [xb.length, c'], [a']⟩) (by intros; kernel_rfl) (fun ids w2 hp hf => by rw [eve, exb]; exact encode_any v x1 y1 x2 y2 hv.k hv.c w2 (hv.f.at_ hf.x.2)) (by intros; kernel_rfl) (by intros; kernel_rfl) (by intros; kernel_rfl) (by intros; kernel_rfl) (fun _ _ => oneNil) ?_
  intro e1 f1 hs1 hn1
  refine node_vl (V := id) (v := v) (fun _ => #[vlV v a1 c1 a2 c2]) (fun a1 c1 a2 c2 => ⟨[v.k], [], [], [v.cs.length, c1, v.ns.length, c2], [a1, a2]⟩) (by intros; kernel_rfl) (fun ids w2 hp hf => cpvl_any v a1 c1 a2 c2 w2 (B1 hf.x.1.1)) (by intros; kernel_rfl) (by intros; kernel_rfl) (by intros; kernel_rfl) (by intros; kernel_rfl) (fun _ _ _ _ => oneNil) ?_
  intro z1 t1 z2 t2 _
  refine node_newi (V := fun s => .tuple #[s, .int .i64 ve]) (bs := xb) (fun ids => #[vlV v z1 t1 z2 t2]) (fun a' c' => ⟨[ve], [], [], [xb.length, c'], [a']⟩) (by intros; kernel_rfl) (fun ids w2 hp hf => by rw [eve, exb]; exact encode_any v z1 t1 z2 t2 hv.k hv.c w2 (hv.f.at_ hf.x.2)) (by intros; kernel_rfl) (by intros; kernel_rfl) (by intros; kernel_rfl) (by intros; kernel_rfl) (fun _ _ => oneNil) ?_
  intro e2 f2 hs2 hn2
  have hd1 : ∀ k, f1 ≠ 0 → abk e1 = some k → w.heap.size ≤ k ∧ ¬ (B0.and (frow e2 f2 xb)).F k := fun k h1 h2 => ⟨(hn1 k h1 h2).1, fun q => q.elim (fun q => (hn1 k h1 h2).2 (.inl q)) (fun q => (hn2 k q.1 q.2).2 (.inl (.inr ⟨h1, h2⟩)))⟩
  have hvb : ve = 0 → xb = vlB v := fun h => by rw [exb]; exact if_pos (eve ▸ h)
  have hve : ve ≠ 0 → xb = [] := fun h => by rw [exb]; exact if_neg (fun q => h (eve.trans q))
  refine ⟨fun vs hx => vs = ⟨[], [], [], [], []⟩ ∧ hx = (B0.and (frow e2 f2 xb)).and (frow e1 f1 xb), ?_, ?_⟩
  · refine br_F (ve != ve) (by kernel_rfl) (by simp) ?_
    by_cases h0 : ve = 0
    · refine br_T (ve == 0) (by kernel_rfl) (by simpa using h0) ?_
      have hx := hvb h0
      refine node_newi (V := id) (bs := xb) (fun ids => #[vlV v a1 c1 a2 c2]) (fun a' c' => ⟨[], [], [], [xb.length, c'], [a']⟩) (by intros; kernel_rfl) (fun ids w2 hp hf => by rw [hx]; exact rbytes_any v a1 c1 a2 c2 hv (eve ▸ h0) w2 (B1 hf.x.1.1.1.1)) (by intros; kernel_rfl) (by intros; kernel_rfl) (by intros; kernel_rfl) (by intros; kernel_rfl) (fun _ _ => oneNil) ?_
      intro g1 h1 _ _
      refine node_P ⟨[], [true], [], [], []⟩ #[.slice e1 xb.length f1, .slice g1 xb.length h1] (.bool true) (by intros; kernel_rfl) (by intros; kernel_rfl) (by intros; kernel_rfl) (by intros; kernel_rfl) (by intros; kernel_rfl) oneNil (fun ids w2 hp hf => ?_) ?_
      · have := sameb_any e1 f1 xb g1 h1 xb w2 (frow_cells hf.x.1.1.1.2) (frow_cells hf.x.2) (by omega)
        rw [decide_eq_true rfl] at this
        exact this
      refine br_f (by kernel_rfl) ?_
      refine br_F (ve != 0) (by kernel_rfl) (by simp [h0]) ?_
      exact again_V ⟨[], [], [], [], []⟩ rfl (by intros; kernel_rfl) ((B0.and (frow e2 f2 xb)).and (frow e1 f1 xb)) (fun w2 ids hf => ⟨⟨⟨hf.x.1.1.1.1.1, hf.x.1.2⟩, hf.x.1.1.1.2⟩, fun j hj => hf.sep j (hj.elim (fun h => h.elim (fun q => .inl (.inl (.inl (.inl (.inl q))))) (fun q => .inl (.inr q))) (fun q => .inl (.inl (.inl (.inr q)))))⟩) ⟨rfl, rfl⟩
    · refine br_F (ve == 0) (by kernel_rfl) (by simpa using h0) ?_
      refine br_T (ve != 0) (by kernel_rfl) (by simpa using h0) ?_
      refine br_F ((xb.length : Int) != 0) (by kernel_rfl) (by rw [hve h0]; rfl) ?_
      exact again_V ⟨[], [], [], [], []⟩ rfl (by intros; kernel_rfl) ((B0.and (frow e2 f2 xb)).and (frow e1 f1 xb)) (fun w2 ids hf => ⟨⟨⟨hf.x.1.1.1.1, hf.x.2⟩, hf.x.1.1.2⟩, fun j hj => hf.sep j (hj.elim (fun h => h.elim (fun q => .inl (.inl (.inl (.inl q)))) (fun q => .inr q)) (fun q => .inl (.inl (.inr q))))⟩) ⟨rfl, rfl⟩
  rintro vs hx' hcnt ⟨rfl, rfl⟩
  refine loop_i (CoI (B0.and (frow e2 f2 xb)) xb.length e1 f1) (fun vs => xb.length - (vs.i.headD 0).toNat) (fun ids w2 hp hf => ⟨_, ⟨hf.x, hf.sep⟩, 0, xb, Nat.zero_le _, rfl, rfl, rfl⟩) ?_
  rintro vs hx' hcnt2 ⟨k, d, hk, hd, rfl, rfl⟩
  by_cases hlt : k < xb.length
  · refine br_T (decide ((k : Int) < (xb.length : Int))) (by kernel_rfl) (decide_eq_true (by omega)) ?_
    have hwk : IntKind.i64.wrap ((k : Int) + 1) = ((k + 1 : Nat) : Int) := by rw [wrap_i64 (by omega)]; omega
    obtain ⟨y, hy⟩ : ∃ y, d[k]? = some y := ⟨_, List.getElem?_eq_getElem (by omega)⟩
    have hsm := hs1 (fun q => by rw [q] at hlt; exact absurd hlt (Nat.not_lt_zero _))
    refine need_i ⟨hsm, (show (0 : Int) ≤ k by omega), (show (k : Int) < xb.length by omega)⟩ ?_
    refine node_ld ⟨[y], [], [], [], []⟩ (fun ids w2 hp hf => (b_elt (rw_cells hf.x.2) (i := k) hy).2 _ (fun e => e)) (fun ids w2 hf => ⟨by kernel_rfl, oneNil⟩) ?_
    refine need_i ⟨hsm, (show (0 : Int) ≤ k by omega), (show (k : Int) < xb.length by omega)⟩ ?_
    refine node_stores (sz := 1) e1 d.length f1 (bcells d) [.int .u8 (ifn .xor .u8 y 255)] k 0 (.int .u8 (ifn .xor .u8 y 255)) (by kernel_rfl) (by intros; kernel_rfl) (by intros; kernel_rfl) rfl (by simp [Value.oneCell']) (by simp; omega) (by simp) (fun q h1 h2 hF => (hd1 q h1 h2).2 hF) (fun q h1 h2 => .inl (hd1 q h1 h2).1) rfl rfl (by kernel_rfl) ?_
    rw [frow_spl (by omega)]
    refine again_V ⟨[((k + 1 : Nat) : Int)], [], [], [], []⟩ rfl (fun ids => Eq.trans (b := ⟨[IntKind.i64.wrap ((k : Int) + 1)], [], [], [], []⟩) (by kernel_rfl) (by rw [hwk])) _ (fun w2 ids hf => ⟨hf.x, hf.sep⟩) ⟨⟨k + 1, _, by omega, ?_, rfl, rfl⟩, ?_⟩
    · rw [List.length_append, List.length_cons, List.length_take, List.length_drop]; omega
    · show xb.length - (((k + 1 : Nat) : Int)).toNat < xb.length - ((k : Int)).toNat
      omega
  refine br_F (decide ((k : Int) < (xb.length : Int))) (by kernel_rfl) (decide_eq_false (by omega)) ?_
  refine ⟨fun vs hx => vs = ⟨[], [], [], [], []⟩ ∧ hx = B0, ?_, ?_⟩
  · by_cases h0 : ve = 0
    · refine br_T (ve == 0) (by kernel_rfl) (by simpa using h0) ?_
      have hx := hvb h0
      refine node_newi (V := id) (bs := xb) (fun ids => #[vlV v a1 c1 a2 c2]) (fun a' c' => ⟨[], [], [], [xb.length, c'], [a']⟩) (by intros; kernel_rfl) (fun ids w2 hp hf => by rw [hx]; exact rbytes_any v a1 c1 a2 c2 hv (eve ▸ h0) w2 (B1 hf.x.1.1)) (by intros; kernel_rfl) (by intros; kernel_rfl) (by intros; kernel_rfl) (by intros; kernel_rfl) (fun _ _ => oneNil) ?_
      intro g1 h1 _ _
      refine node_P ⟨[], [true], [], [], []⟩ #[.slice e2 xb.length f2, .slice g1 xb.length h1] (.bool true) (by intros; kernel_rfl) (by intros; kernel_rfl) (by intros; kernel_rfl) (by intros; kernel_rfl) (by intros; kernel_rfl) oneNil (fun ids w2 hp hf => ?_) ?_
      · have := sameb_any e2 f2 xb g1 h1 xb w2 (frow_cells hf.x.1.1.2) (frow_cells hf.x.2) (by omega)
        rw [decide_eq_true rfl] at this
        exact this
      refine br_f (by kernel_rfl) ?_
      exact again_V ⟨[], [], [], [], []⟩ rfl (by intros; kernel_rfl) B0 (fun w2 ids hf => ⟨hf.x.1.1.1, fun j hj => hf.sep j (.inl (.inl (.inl hj)))⟩) ⟨rfl, rfl⟩
    · refine br_F (ve == 0) (by kernel_rfl) (by simpa using h0) ?_
      exact again_V ⟨[], [], [], [], []⟩ rfl (by intros; kernel_rfl) B0 (fun w2 ids hf => ⟨hf.x.1.1, fun j hj => hf.sep j (.inl (.inl hj))⟩) ⟨rfl, rfl⟩
  rintro vs hx' hcnt3 ⟨rfl, rfl⟩
  refine node_nd (bs := bs) (fun ids => #[.slice a bs.length cap]) (fun a' c' => ⟨[], [], [], [bs.length, c'], [a']⟩) (by intros; kernel_rfl) (fun ids w2 hp hf => copyb_new a cap bs w2 (B2 hf.x).mem hl) (by intros; kernel_rfl) (by intros; kernel_rfl) (by intros; kernel_rfl) (by intros; kernel_rfl) (fun _ _ => oneNil) ?_
  intro p1 q1 _
  refine node_vl (V := fun v => .tuple #[v, .int .i64 de]) (v := dv) (fun ids => #[.slice a bs.length cap]) (fun a1 c1 a2 c2 => ⟨[dv.k, de], [], [], [dv.cs.length, c1, dv.ns.length, c2], [a1, a2]⟩) (by intros; kernel_rfl) (fun ids w2 hp hf => by rw [ede, edv]; exact qdecode (B2 hf.x.1) hlc) (by intros; kernel_rfl) (by intros; kernel_rfl) (by intros; kernel_rfl) (by intros; kernel_rfl) (fun _ _ _ _ => oneNil) ?_
  intro k1 l1 k2 l2 _
  refine node_vl (V := fun v => .tuple #[v, .int .i64 de]) (v := dv) (fun ids => #[.slice p1 bs.length q1]) (fun a1 c1 a2 c2 => ⟨[dv.k, de], [], [], [dv.cs.length, c1, dv.ns.length, c2], [a1, a2]⟩) (by intros; kernel_rfl) (fun ids w2 hp hf => by rw [ede, edv]; exact decode_any p1 q1 bs w2 hf.x.1.2 hb hl) (by intros; kernel_rfl) (by intros; kernel_rfl) (by intros; kernel_rfl) (by intros; kernel_rfl) (fun _ _ _ _ => oneNil) ?_
  intro m1 n1 m2 n2 _
  refine node_P ⟨[], [true], [], [], []⟩ #[vlV dv k1 l1 k2 l2, vlV dv m1 n1 m2 n2] (.bool true) (by intros; kernel_rfl) (by intros; kernel_rfl) (by intros; kernel_rfl) (by intros; kernel_rfl) (by intros; kernel_rfl) oneNil (fun ids w2 hp hf => ?_) ?_
  · have := samev_any dv k1 l1 k2 l2 dv m1 n1 m2 n2 w2 (hdv.f.at_ hf.x.1.2) (hdv.f.at_ hf.x.2)
    rw [vlSame_t rfl] at this
    exact this
  refine br_t (by kernel_rfl) ?_
  refine br_T (de == de) (by kernel_rfl) (by simp) ?_
  refine node_P ⟨[], [true], [], [], []⟩ #[.slice p1 bs.length q1, .slice a bs.length cap] (.bool true) (by intros; kernel_rfl) (by intros; kernel_rfl) (by intros; kernel_rfl) (by intros; kernel_rfl) (by intros; kernel_rfl) oneNil (fun ids w2 hp hf => ?_) (pure_done (by intros; kernel_rfl))
  have := sameb_any p1 q1 bs a cap bs w2 hf.x.1.1.2 (B2 hf.x.1.1.1).mem hl
  rw [decide_eq_true rfl] at this
  exact this
theorem codes_args (x : Dat) (a : Option Addr) (cap : Nat) (ds : List Dat) (w : World) (hx : x.In Try.prog w 25) (hC : Cells w a (Dat.cellsAll ds)) (hds : ∀ d ∈ ds, d.In Try.prog w 5) (hl : ds.length ≤ 9223372036854775807) (hb : ds.length * Try.prog.bytesOf 5 ≤ reachBytes) (hc : ds.length ≤ cap) : Calls Try.prog 4 #[.agg x.cells.toArray, .slice a ds.length cap] w (PureAt w (.bool true)) := by
  obtain ⟨v, a1, c1, a2, c2, e, H, k1, q1⟩ := opn_vl hx
  obtain ⟨bs, l1, e1, hby⟩ := opn_bytes ds hds
  have hr := reach_is
  rw [bytes_u8] at hb
  rw [vl_arg e, ← l1]
  exact codes_walk v a1 c1 a2 c2 a cap bs w H ⟨k1, q1, H.fit⟩ (e1 ▸ hC) hby (by omega) (by omega)
end Go.Proofs.Yticacnankpaohaa
