/- ProposerStops. -/
import Derived.Test.YtlgpjjgkdpmidaaPrW
import Derived.Test.YtlgpjjgkdpmidaaPrV3
namespace Go.Proofs.Ytlgpjjgkdpmidaa
open Go.ChangeShapes Go.WideShapes Go.ChangeAt Go.RowKit Go.Syn Go.Eng Go.MapKept
set_option linter.unusedVariables false
set_option linter.unusedSimpArgs false
set_option maxRecDepth 100000
theorem rw_cl_F {b : Option Addr} {n d sz e : Nat} {cs : List Value} {w : World} (hx : (HX.rw sz e b n d cs).X w) {k : Nat} (hk : (HX.cl b cs).F k) : (HX.rw sz e b n d cs).F k := by
  obtain ⟨hne, rfl⟩ := hk
  have hc : d ≠ 0 := fun q => by
    rcases hx with ⟨_, _, h3⟩ | ⟨h3, _⟩
    · exact hne h3
    · exact h3 q
  obtain ⟨g, _, rfl, _⟩ := rw_open hx hc
  exact ⟨hc, rfl⟩
theorem vz_at (w : World) (a1 a2 : Option Addr) : VlAt w vz a1 a2 := vz_fit.at_ ⟨fun h => absurd h (by decide), fun h => absurd h (by decide)⟩
theorem vz_F {k : Nat} {a1 a2 : Option Addr} (h : (vlX vz a1 a2).F k) : False := h.elim (fun q => q.1 rfl) (fun q => q.1 rfl)
/-! ### A leader that was given Noops and a Stop -/
def vst (ns : List Int) : Vl := ⟨2, [], ns⟩
theorem vst_E (ns : List Int) : valE (vst ns) = if setOkB ns = true then 0 else 24 := by unfold vst valE checkV; simp
def nVS (n : Nat) (ns : List Int) : List Vl := List.replicate n vz ++ [vst ns]
theorem nVS_len (n : Nat) (ns : List Int) : (nVS n ns).length = n + 1 := by simp [nVS]
theorem nVS_at {n : Nat} {ns : List Int} {i : Nat} {v : Vl} (h : (nVS n ns)[i]? = some v) : (v.k == 2) = decide (i = n) := by
  unfold nVS at h
  rcases Nat.lt_trichotomy i n with q | q | q
  · rw [List.getElem?_append_left (by simpa using q), List.getElem?_replicate, if_pos q] at h
    cases h
    rw [decide_eq_false (by omega)]; rfl
  · subst q
    rw [List.getElem?_append_right (by simp)] at h
    simp at h
    subst h
    rw [decide_eq_true rfl]; rfl
  · rw [List.getElem?_eq_none (by simp; omega)] at h; cases h
/-- While Noops are taken. -/
structure SnS (win : Int) (k : Nat) (P : Pr Vl) : Prop where
  ph : P.phase = 2
  r : P.r = 7
  n : P.n = 1
  wn : P.window = win
  nx : P.next = 1
  fr : P.fresh = []
  q : P.queue = List.replicate k vz
  ou : P.out = []
  st : P.stop = false
/-- Behind it. -/
structure SpS (win : Int) (n : Nat) (ns : List Int) (asked : Nat) (P : Pr Vl) : Prop where
  ph : P.phase = 2
  r : P.r = 7
  nn : P.n = 1
  wn : P.window = win
  nx : P.next = (asked : Int) + 1
  fr : P.fresh = []
  q : P.queue = (nVS n ns).drop asked
  le : asked ≤ n + 1
  st : P.stop = true
section
variable {win : Int} {n k asked : Nat} {ns : List Int} {P : Pr Vl}
theorem sn_new (win : Int) : SnS (max 1 (min win 16)) 0 (lead1 win) := ⟨rfl, rfl, rfl, rfl, rfl, rfl, rfl, rfl, rfl⟩
theorem sn_sub (h : SnS win k P) (hk : k ≤ 20) : (P.submit vz).2 = 0 ∧ SnS win (k + 1) (P.submit vz).1 := by
  have e : P.submit vz = ({ P with queue := P.queue ++ [vz], stop := false }, 0) := by
    unfold Pr.submit
    rw [if_neg (by decide), if_neg (by rw [h.ph]; decide), if_neg (by rw [h.q, List.length_replicate]; omega), if_neg (by rw [h.st]; decide)]
    rfl
  rw [e]
  refine ⟨rfl, h.ph, h.r, h.n, h.wn, h.nx, h.fr, ?_, h.ou, rfl⟩
  show P.queue ++ [vz] = _
  rw [h.q, List.replicate_succ']
theorem sn_bad (h : SnS win k P) (hs : ¬ setOkB ns = true) : P.submit (vst ns) = (P, 24) := by
  have := vst_E ns
  rw [if_neg hs] at this
  unfold Pr.submit
  rw [this]; rfl
theorem sn_stop (h : SnS win k P) (hk : k ≤ 20) (hs : setOkB ns = true) : (P.submit (vst ns)).2 = 0 ∧ SpS win k ns 0 (P.submit (vst ns)).1 ∧ (P.submit (vst ns)).1.out = [] := by
  have e0 := vst_E ns
  rw [if_pos hs] at e0
  have e : P.submit (vst ns) = ({ P with queue := P.queue ++ [vst ns], stop := true }, 0) := by
    unfold Pr.submit
    rw [if_neg (by rw [e0]; decide), if_neg (by rw [h.ph]; decide), if_neg (by rw [h.q, List.length_replicate]; omega), if_neg (by rw [h.st]; decide)]
    rfl
  rw [e]
  refine ⟨rfl, ⟨h.ph, h.r, h.n, h.wn, h.nx, h.fr, ?_, Nat.zero_le _, rfl⟩, h.ou⟩
  show P.queue ++ [vst ns] = _
  rw [h.q]; rfl
theorem sp_sub (h : SpS win n ns asked P) (v : Vl) : P.submit v = (P, if valE v ≠ 0 then valE v else 64) := by
  unfold Pr.submit
  by_cases h1 : valE v ≠ 0
  · rw [if_pos h1, if_pos h1]
  rw [if_neg h1, if_neg h1, if_neg (by rw [h.ph]; decide)]
  by_cases h2 : 32 ≤ P.queue.length
  · rw [if_pos h2]
  rw [if_neg h2, if_pos h.st]
theorem sp_go (h : SpS win n ns asked P) (hou : P.out = []) (hw : 1 ≤ win) (hn : n ≤ 20) (ex : Int) (hex : (ex : Int) ≤ asked) : ∃ j P', P.goes Vl.k ex = (P', numb ((asked : Int) + 1) (((nVS n ns).drop asked).take j)) ∧ asked + j ≤ n + 1 ∧ SpS win n ns (asked + j) P' ∧ P'.out = numb ((asked : Int) + 1) (((nVS n ns).drop asked).take j) ∧ (asked + j = n + 1 ∨ ex + 1 ≤ ((asked + j : Nat) : Int)) := by
  obtain ⟨j, P', e, s, hf⟩ := goes_spec Vl.k ex h.ph h.fr
  have hj := s.hj
  rw [h.q, List.length_drop, nVS_len] at hj
  have hle := h.le
  have hnx : P'.next = ((asked + j : Nat) : Int) + 1 := by
    have := s.nx
    rw [h.nx] at this
    have this : P'.next = _ := this
    omega
  obtain ⟨a1, a2, a3, a4, a5, a6, a7, a8, a9⟩ := s.same
  refine ⟨j, P', by rw [e, h.nx, h.q], by omega, ⟨a3.trans h.ph, a4.trans h.r, a5.trans h.nn, a2.trans h.wn, hnx, hf, ?_, by omega, s.stop h.st⟩, ?_, ?_⟩
  · have := s.q
    rw [h.q, List.drop_drop] at this
    exact this
  · have := s.out (by rw [hou]; exact fun s _ => rfl)
    rw [hou, h.nx, h.q] at this
    exact this
  · rcases s.full with f | f
    · left
      rw [h.q, List.length_drop, nVS_len] at f
      omega
    · right
      rw [h.wn] at f
      have f : ¬ (P'.next - win ≤ ex ∧ P'.next ≤ 1099511627776) := f
      rw [hnx] at f
      omega
theorem numb_del (s : Int) (v : Vl) (l : List Vl) : mdel (numb s (v :: l)) s = numb (s + 1) l := by
  unfold mdel
  rw [numb, List.filter_cons, if_neg (by simp)]
  exact List.filter_eq_self.2 fun p hp => decide_eq_true (by have := numb_ge _ _ p hp; omega)
theorem sp_at {j i : Nat} (hj : asked + j ≤ n + 1) (hi : i < j) : ∃ v, (nVS n ns)[asked + i]? = some v ∧ (numb ((asked : Int) + 1) (((nVS n ns).drop asked).take j))[i]? = some ((asked : Int) + 1 + i, v) ∧ (((nVS n ns).drop asked).take j).drop i = v :: (((nVS n ns).drop asked).take j).drop (i + 1) := by
  have hl := nVS_len n ns
  have hlt : i < (((nVS n ns).drop asked).take j).length := by rw [List.length_take, List.length_drop]; omega
  have e : (((nVS n ns).drop asked).take j)[i]'hlt = (nVS n ns)[asked + i]'(by omega) := by simp
  refine ⟨_, List.getElem?_eq_getElem (by omega), ?_, ?_⟩
  · rw [numb_get, List.getElem?_eq_getElem hlt, e]; rfl
  · rw [List.drop_eq_getElem_cons hlt, e]
theorem sp_len {j : Nat} (hj : asked + j ≤ n + 1) : (numb ((asked : Int) + 1) (((nVS n ns).drop asked).take j)).length = j := by
  rw [numb_len, List.length_take, List.length_drop, nVS_len]; omega
end
set_option maxHeartbeats 4000000 in
theorem stops_walk (win ah : Int) (an : Option Addr) (cn : Nat) (ns : List Int) (av : Option Addr) (cv : Nat) (xs : List Pv) (w : World) (hwin : I64 win) (Hn : Ints w an ns) (sn : ns.length * 8 ≤ 140737488351232) (Hv : Cells w av (qcs xs)) (hxs : ∀ p ∈ xs, VlAt w p.v p.a1 p.a2) (sv : xs.length ≤ 4611686018427387903) :
    Calls Try.prog 5 #[.int .i64 win, .int .i64 ah, .slice an ns.length cn, .slice av xs.length cv] w (PureAt w (.bool true)) := by
  obtain ⟨B, eB⟩ : ∃ x, x = (pvX av xs).and (HX.ints an ns) := ⟨_, rfl⟩
  have BX : ∀ {w}, B.X w → (pvX av xs).X w ∧ Ints w an ns := fun h => by rw [eB] at h; exact h
  have HX0 : B.X w := by rw [eB]; exact ⟨pv_X Hv hxs, Hn⟩
  have Bs : ∀ k, B.F k → k < w.heap.size := fun k hk => by
    rw [eB] at hk
    rcases hk with hk | hk
    · exact pv_lt (pv_X Hv hxs) k hk
    · rw [hk.2]; exact (Hn.at_ (List.length_pos_iff.2 hk.1)).2.1
  refine calls_at (tab_ok _) Try.func5 rfl tPStops3 (ρ := ⟨[win, ah], [], [], [ns.length, cn, xs.length, cv], [an, av]⟩) (ids := []) (hx := B) rfl (Facts.initq rfl oneNil HX0 Bs) ?_
  refine node_P ⟨[], [true], [], [], []⟩ #[] (.bool true) (by intros; kernel_rfl) (by intros; kernel_rfl) (by kernel_rfl) (by kernel_rfl) (by kernel_rfl) oneNil (fun ids w2 hp hf => head_any w2) ?_
  refine br_F false (by kernel_rfl) rfl ?_
  refine node_pnew 1 win (fun ids => some ⟨idAt ids 0, 0, none⟩) 1 [1] (by intros; kernel_rfl) (fun ids w2 hp hf => ints_blk hf 0 _ _ [1] rfl (by kernel_rfl) (by decide) (by unfold I64; decide)) ⟨by kernel_rfl, by kernel_rfl⟩ (by intros; kernel_rfl) (by kernel_rfl) (by kernel_rfl) (by intros; kernel_rfl) ?_
  intro nb F0 hown0
  refine node_pcamp 7 1 1 ⟨[1, 0, 0, 0, 7, 1, 1, 0, 0, 0, 0, 0, 0, 0, 0, 0, 0, 0, 0, 0, 0, 0], [], [], [0, 0, 0, 0, 0, 0, 0, 0], [none, none, none, none]⟩ hown0 ⟨by decide, by decide⟩ (by kernel_rfl) rfl (by exact (show ¬ compareV 7 1 0 0 ≤ 0 by decide)) (by intros; kernel_rfl) (by intros; kernel_rfl) (by kernel_rfl) (by kernel_rfl) (by kernel_rfl) oneNil ?_
  intro F1 hown1
  refine node_PI ⟨[2, 0, 0, 0, 7, 1, 1, 0, 0, 0, 0, 0, 0, 0, 0, 0, 0, 0, 0, 0, 0], [], [], [0, 0, 0, 0, 0, 0, 0, 0], [none, none, none, none]⟩ (fun _ => #[.agg #[.int .i64 7, .int .i64 1], .int .i64 1, .int .i64 0, .slice none 0 0]) (proM 7 1 1 0 (.slice none 0 0)) (by intros; kernel_rfl) (by intros; kernel_rfl) (by kernel_rfl) (by kernel_rfl) (by kernel_rfl) oneNil (fun ids w2 hp hf => lpromise_any 7 1 1 0 none 0 0 w2) ?_
  refine node_pprom 1 0 [] (fun _ => none) 0 true hown1 (congrArg Prod.snd (lead1_is win)) (fun x hx => by cases hx) (by kernel_rfl) rfl (by kernel_rfl) (fun x hx => by cases hx) (by exact (show (0 : Int) < 1 by decide)) (by exact (show (1 : Int) ≤ 1 ∧ (1 : Int) ≤ 1099511627776 by decide)) (fun p hp => by cases hp) ⟨Nat.zero_le _, Nat.zero_le _, (show 1 ≤ 9 by decide)⟩ ⟨(fun x hx => by cases hx), by unfold I64; decide⟩ (Nat.zero_le _) (by intros; kernel_rfl) (fun ids w2 hp hf => ⟨⟨fun h => absurd h (by decide), fun x hx => by cases hx⟩, fun k hk => hk.elim (fun q => absurd rfl q.1) fun ⟨x, hx, _⟩ => by cases hx⟩) (by intros; kernel_rfl) (by kernel_rfl) (by kernel_rfl) (by kernel_rfl) ?_
  intro F2 hown2
  refine holds_eq (hx' := B.and (prP F2 nb (lead1 win))) (congrArg (fun z => B.and (prP F2 nb z)) (congrArg Prod.fst (lead1_is win))) ?_
  refine br_F false (by kernel_rfl) rfl ?_
  refine br_F false (by kernel_rfl) rfl ?_
  obtain ⟨wn, ewn⟩ : ∃ x, x = max 1 (min win 16) := ⟨_, rfl⟩
  have hw0 : 1 ≤ wn ∧ wn ≤ 16 := by omega
  obtain ⟨z0, z1⟩ := and_small (x := ah) (n := 15) (by omega)
  obtain ⟨N, eN⟩ : ∃ N : Nat, ifn .and .i64 ah 15 = (N : Int) := ⟨(ifn .and .i64 ah 15).toNat, by have : ((15 : Nat) : Int) = 15 := rfl; rw [this] at z0 z1; omega⟩
  have hN : N ≤ 15 := by have : ((15 : Nat) : Int) = 15 := rfl; rw [this, eN] at z1; omega
  refine ⟨fun vs hx m => ∃ (k : Nat) (P : Pr Vl) (F : Nat → Prop), m = N - k ∧ k ≤ N ∧ vs = ⟨[(k : Int)], [], [], [], []⟩ ∧ SnS wn k P ∧ OwnF w (fun _ => False) B F ∧ hx = B.and (prP F nb P), fun ids w2 hp hf => ⟨_, N, ⟨hf.x, hf.sep⟩, 0, lead1 win, F2, rfl, Nat.zero_le _, by kernel_rfl, by rw [ewn]; exact sn_new win, hown2, rfl⟩, ?_⟩
  rintro vs hx' m hcnt ⟨k, P, F, rfl, hkN, rfl, hS, hown, rfl⟩
  refine holds_env (ρ' := ⟨[win, ah, 1, 0, 0, 0, 7, 1, 1, 0, 0, 0, 0, 0, 0, 0, 0, 0, 0, 0, 0, 0, 0, 0, 2, 0, 0, 0, 7, 1, 1, 0, 0, 0, 0, 0, 0, 0, 0, 0, 0, 0, 0, 0, 0, 0, (k : Int)], [true, true], [.pointer (some ⟨nb, 0, none⟩)], [ns.length, cn, xs.length, cv, 0, 0, 0, 0, 0, 0, 0, 0, 0, 0, 0, 0, 0, 0, 0, 0], [an, av, none, none, none, none, none, none, none, none]⟩) rfl ?_
  refine br_D (p := (k : Int) < ifn .and .i64 ah 15) (by kernel_rfl) (fun hk => ?_) (fun hk => ?_)
  · rw [eN] at hk
    obtain ⟨g0, hS'⟩ := sn_sub hS (by omega)
    refine node_psub vz (fun _ => none) 0 (fun _ => none) 0 hown 0 g0 (by intros; kernel_rfl) (fun ids w2 hp hf => ⟨vz_at _ _ _, fun k hk => (vz_F hk).elim⟩) (by intros; kernel_rfl) (by kernel_rfl) (by kernel_rfl) (by kernel_rfl) ?_
    intro F3 hF3
    refine br_F false (by kernel_rfl) rfl ?_
    have hwk : IntKind.i64.wrap ((k : Int) + 1) = ((k + 1 : Nat) : Int) := by rw [wrap_i64 (by omega)]; omega
    exact again_V ⟨[IntKind.i64.wrap ((k : Int) + 1)], [], [], [], []⟩ rfl (by intros; kernel_rfl) _ (fun w2 ids hf => ⟨hf.x, hf.sep⟩) ⟨N - (k + 1), by omega, k + 1, _, F3, rfl, by omega, by rw [hwk], hS', hF3, rfl⟩
  rw [eN] at hk
  have hke : k = N := by omega
  subst hke
  refine node_clones (sz := 1) (xs := ns.map (Value.int .i64)) rfl Try.underlying26 info_int1 rfl (by decide) 2 rfl (fun _ => an) ns.length cn (by rw [List.length_map, Nat.mul_one]) (fun ids w2 hp hf => (BX hf.x.1).2.cells) (fun x hx => by obtain ⟨n, _, rfl⟩ := List.mem_map.1 hx; rfl) (by unfold maxLen; omega) (by omega) (by intros; kernel_rfl) (by intros; kernel_rfl) (by intros; kernel_rfl) (by kernel_rfl) (by kernel_rfl) (by intros; kernel_rfl) ?_
  intro a' c' hfr
  refine holds_eq (HX.and_right_comm _ _ _) ?_
  obtain ⟨B2, eB2⟩ : ∃ x, x = B.and (HX.rw 1 3 a' ns.length c' (ns.map (Value.int .i64))) := ⟨_, rfl⟩
  have B2X : ∀ {w}, B2.X w → B.X w ∧ (HX.rw 1 3 a' ns.length c' (ns.map (Value.int .i64))).X w := fun h => by rw [eB2] at h; exact h
  have B2F : ∀ {k}, (HX.rw 1 3 a' ns.length c' (ns.map (Value.int .i64))).F k → B2.F k := fun h => by rw [eB2]; exact .inr h
  refine holds_eq (congrArg (fun z => z.and (prP F nb P)) eB2.symm) ?_
  have hown' : OwnF w (fun _ => False) B2 F := fun q hq => ⟨fun z => by rw [eB2] at z; exact z.elim (hown q hq).1 fun z => (hfr q z.1 z.2).2 (.inr hq), (hown q hq).2⟩
  refine node_psub (vst ns) (fun _ => none) 0 (fun _ => a') c' hown' (P.submit (vst ns)).2 rfl (by intros; kernel_rfl) (fun ids w2 hp hf => ⟨(show VlFit (vst ns) from ⟨Hn.fits, Nat.zero_le _, by show ns.length ≤ _; omega⟩).at_ ⟨fun h => absurd (show (0 : Nat) < 0 from h) (Nat.lt_irrefl 0), rw_cells (B2X hf.x.1).2⟩, fun q hq => .inl (hq.elim (fun z => absurd rfl z.1) fun z => B2F (rw_cl_F (B2X hf.x.1).2 z))⟩) (by intros; kernel_rfl) (by kernel_rfl) (by kernel_rfl) (by kernel_rfl) ?_
  intro F4 hF4
  refine node_PI ⟨[], [setOkB ns], [], [], []⟩ (fun _ => #[.slice an ns.length cn]) (.bool (setOkB ns)) (by intros; kernel_rfl) (by intros; kernel_rfl) (by kernel_rfl) (by kernel_rfl) (by kernel_rfl) oneNil (fun ids w2 hp hf => refRight_any an cn ns w2 (BX (B2X hf.x.1).1).2) ?_
  by_cases hset : ¬ setOkB ns = true
  · have hset' : setOkB ns = false := Bool.eq_false_iff.2 hset
    rw [sn_bad hS hset]
    refine br_T (!(setOkB ns)) (by kernel_rfl) (by rw [hset']; rfl) ?_
    refine br_T true (by kernel_rfl) rfl ?_
    refine node_pstop false hS.st (by intros; kernel_rfl) (by intros; kernel_rfl) (by kernel_rfl) (by kernel_rfl) (by kernel_rfl) ?_
    exact pure_out (fun _ => id) (by intros; kernel_rfl)
  have hset : setOkB ns = true := Classical.not_not.1 hset
  obtain ⟨g0, hS0, hou0⟩ := sn_stop hS (by omega) hset
  refine br_F (!(setOkB ns)) (by kernel_rfl) (by rw [hset]; rfl) ?_
  refine br_F ((P.submit (vst ns)).2 != 0) (by kernel_rfl) (by rw [g0]; rfl) ?_
  refine node_pstop true hS0.st (by intros; kernel_rfl) (by intros; kernel_rfl) (by kernel_rfl) (by kernel_rfl) (by kernel_rfl) ?_
  refine br_F false (by kernel_rfl) rfl ?_
  obtain ⟨Ps, ePs⟩ : ∃ x, x = (P.submit (vst ns)).1 := ⟨_, rfl⟩
  refine holds_eq (congrArg (fun z => B2.and (prP F4 nb z)) ePs.symm) ?_
  rw [← ePs] at hS0 hou0
  have hB2v : ∀ {w}, B2.X w → (pvX av xs).X w := fun h => (BX (B2X h).1).1
  refine holds_env (ρ' := ⟨[win, ah, 1, 0, 0, 0, 7, 1, 1, 0, 0, 0, 0, 0, 0, 0, 0, 0, 0, 0, 0, 0, 0, 0, 2, 0, 0, 0, 7, 1, 1, 0, 0, 0, 0, 0, 0, 0, 0, 0, 0, 0, 0, 0, 0, 0, (k : Int), (P.submit (vst ns)).2], [true, true, setOkB ns, true], [.pointer (some ⟨nb, 0, none⟩)], [ns.length, cn, xs.length, cv, 0, 0, 0, 0, 0, 0, 0, 0, 0, 0, 0, 0, 0, 0, 0, 0, ns.length, c'], [an, av, none, none, none, none, none, none, none, none, a']⟩) rfl ?_
  generalize (P.submit (vst ns)).2 = e9
  refine ⟨fun vs hx => ∃ (F : Nat → Prop), vs = Vals.nil ∧ OwnF w (fun _ => False) B2 F ∧ hx = B2.and (prP F nb Ps), ?_, ?_⟩
  · refine ⟨fun vs hx m => ∃ (i : Nat) (F : Nat → Prop), m = 20 - i ∧ i ≤ 20 ∧ vs = ⟨[(i : Int)], [], [], [], []⟩ ∧ OwnF w (fun _ => False) B2 F ∧ hx = B2.and (prP F nb Ps), fun ids w2 hp hf => ⟨_, 20, ⟨hf.x, hf.sep⟩, 0, F4, rfl, Nat.zero_le _, by kernel_rfl, hF4, rfl⟩, ?_⟩
    rintro vs hx' m hcnt2 ⟨i, F5, rfl, hi, rfl, hF5, rfl⟩
    refine holds_env (ρ' := ⟨[win, ah, 1, 0, 0, 0, 7, 1, 1, 0, 0, 0, 0, 0, 0, 0, 0, 0, 0, 0, 0, 0, 0, 0, 2, 0, 0, 0, 7, 1, 1, 0, 0, 0, 0, 0, 0, 0, 0, 0, 0, 0, 0, 0, 0, 0, (k : Int), e9, (i : Int)], [true, true, setOkB ns, true], [.pointer (some ⟨nb, 0, none⟩)], [ns.length, cn, xs.length, cv, 0, 0, 0, 0, 0, 0, 0, 0, 0, 0, 0, 0, 0, 0, 0, 0, ns.length, c'], [an, av, none, none, none, none, none, none, none, none, a']⟩) rfl ?_
    refine br_D (p := (i : Int) < (xs.length : Int)) (by kernel_rfl) (fun hk1 => ?_) (fun hk1 => again_V Vals.nil rfl (by intros; kernel_rfl) _ (fun w2 ids hf => ⟨hf.x, hf.sep⟩) ⟨F5, rfl, hF5, rfl⟩)
    refine br_D (p := (i : Int) < 20) (by kernel_rfl) (fun hk2 => ?_) (fun hk2 => again_V Vals.nil rfl (by intros; kernel_rfl) _ (fun w2 ids hf => ⟨hf.x, hf.sep⟩) ⟨F5, rfl, hF5, rfl⟩)
    have hkx : i < xs.length := by omega
    obtain ⟨p, hp0⟩ : ∃ b, xs[i]? = some b := ⟨_, List.getElem?_eq_getElem hkx⟩
    have hpm := List.mem_of_getElem? hp0
    have hpat : ∀ {w}, B2.X w → VlAt w p.v p.a1 p.a2 := fun h => pv_at (hB2v h) hxs hpm
    have hwi : IntKind.i64.wrap ((i : Int) + 1) = ((i + 1 : Nat) : Int) := by rw [wrap_i64 (by omega)]; omega
    obtain ⟨s1, q1⟩ := pv_elt Hv hp0
    refine need_k (av.isSome = true ∧ 0 ≤ (i : Int) ∧ (i : Int) < (xs.length : Int)) (by kernel_rfl) ⟨s1, by omega, by omega⟩ ?_
    refine node_ld0 (k := ⟨49, 4, 1, 22, 11⟩) ⟨[p.v.k], [], [], [p.v.cs.length, p.c1, p.v.ns.length, p.c2], [p.a1, p.a2]⟩ (.pointer (some (((av.getD ⟨0, 0, none⟩).add (i * 3)).add 0))) p.cells (by intros; kernel_rfl) (by intros; kernel_rfl) q1 ⟨by kernel_rfl, (fun v hv => by have hv : v ∈ [Value.pointer (some ⟨nb, 0, none⟩)] := hv; simp only [List.mem_singleton] at hv; subst hv; rfl)⟩ (by kernel_rfl) oneNil ?_
    refine node_vl (V := id) (v := p.v) (fun _ => #[p.val]) (fun b1 d1 b2 d2 => ⟨[p.v.k], [], [], [p.v.cs.length, d1, p.v.ns.length, d2], [b1, b2]⟩) (by intros; kernel_rfl) (fun ids w2 hp hf => cpvl_any _ _ _ _ _ w2 (hpat hf.x.1)) (by intros; kernel_rfl) (by kernel_rfl) (by kernel_rfl) (by intros; kernel_rfl) (fun _ _ _ _ => oneNil) ?_
    intro b1 d1 b2 d2 hfr2
    refine holds_eq (HX.and_right_comm _ _ _) ?_
    have hF' : OwnF w (fun _ => False) (B2.and (vlX p.v b1 b2)) F5 := fun q hq => ⟨fun z => z.elim (hF5 q hq).1 fun z => (hfr2 q z).2 (.inr hq), (hF5 q hq).2⟩
    obtain ⟨ee, eee⟩ : ∃ x, x = if valE p.v ≠ 0 then valE p.v else 64 := ⟨_, rfl⟩
    have hsub := sp_sub hS0 p.v
    rw [← eee] at hsub
    refine node_psub p.v (fun _ => b1) d1 (fun _ => b2) d2 hF' ee (by rw [hsub]) (by intros; kernel_rfl) (fun ids w2 hp hf => ⟨(hxs p hpm).fit.at_ hf.x.1.2, fun q hq => .inl (.inr hq)⟩) (by intros; kernel_rfl) (by kernel_rfl) (by kernel_rfl) (by kernel_rfl) ?_
    rw [hsub]
    intro F6 hF6
    refine need_k (av.isSome = true ∧ 0 ≤ (i : Int) ∧ (i : Int) < (xs.length : Int)) (by kernel_rfl) ⟨s1, by omega, by omega⟩ ?_
    refine node_ld0 (k := ⟨52, 4, 1, 30, 15⟩) ⟨[p.v.k], [], [], [p.v.cs.length, p.c1, p.v.ns.length, p.c2], [p.a1, p.a2]⟩ (.pointer (some (((av.getD ⟨0, 0, none⟩).add (i * 3)).add 0))) p.cells (by intros; kernel_rfl) (by intros; kernel_rfl) q1 ⟨by kernel_rfl, (fun v hv => by have hv : v ∈ [Value.pointer (some ⟨nb, 0, none⟩)] := hv; simp only [List.mem_singleton] at hv; subst hv; rfl)⟩ (by kernel_rfl) oneNil ?_
    refine node_PI ⟨[valE p.v], [], [], [], []⟩ (fun _ => #[p.val]) (.int .i64 (valE p.v)) (by intros; kernel_rfl) (by intros; kernel_rfl) (by kernel_rfl) (by kernel_rfl) (by kernel_rfl) oneNil (fun ids w2 hp hf => rchk_any _ _ _ _ _ w2 (hpat hf.x.1.1)) ?_
    have fin : ∀ {m : Mem} {ρ : Env} {es : Vec} {S : Stack}, (∀ ids, es.den ρ ids = ⟨[IntKind.i64.wrap ((i : Int) + 1)], [], [], [], []⟩) → (Tree.again 22 es m).holds ⟨Try.prog, w, fun _ => False, PureAt w (.bool true)⟩ ρ [] ((B2.and (vlX p.v b1 b2)).and (prP F6 nb Ps)) ((22, fun vs' hx'' => ∃ n', n' < 20 - i ∧ ∃ (i : Nat) (F : Nat → Prop), n' = 20 - i ∧ i ≤ 20 ∧ vs' = ⟨[(i : Int)], [], [], [], []⟩ ∧ OwnF w (fun _ => False) B2 F ∧ hx'' = B2.and (prP F nb Ps)) :: S) := fun hv =>
      again_V ⟨[IntKind.i64.wrap ((i : Int) + 1)], [], [], [], []⟩ rfl hv (B2.and (prP F6 nb Ps)) (fun w2 ids hf => ⟨⟨hf.x.1.1, hf.x.2⟩, fun q hq => hq.elim (fun z => hf.sep q (.inl (.inl z))) fun z => hf.sep q (.inr z)⟩) ⟨20 - (i + 1), by omega, i + 1, F6, rfl, by omega, by rw [hwi], fun q hq => ⟨fun z => (hF6 q hq).1 (.inl z), (hF6 q hq).2⟩, rfl⟩
    by_cases hv0 : valE p.v = 0
    · have h64 : ee = 64 := by rw [eee, if_neg (by omega)]
      refine br_T (decide (valE p.v = 0)) (by kernel_rfl) (decide_eq_true hv0) ?_
      refine br_F (ee != 64) (by kernel_rfl) (by rw [h64]; rfl) ?_
      refine br_F (ee == 0) (by kernel_rfl) (by rw [h64]; rfl) ?_
      exact fin (by intros; kernel_rfl)
    · have h64 : ee = valE p.v := by rw [eee, if_pos hv0]
      refine br_F (decide (valE p.v = 0)) (by kernel_rfl) (decide_eq_false hv0) ?_
      refine br_F (decide (ee = 0)) (by kernel_rfl) (decide_eq_false (by omega)) ?_
      exact fin (by intros; kernel_rfl)
  rintro vs hx' hcnt2 ⟨F5, rfl, hF5, rfl⟩
  refine holds_env (ρ' := ⟨[win, ah, 1, 0, 0, 0, 7, 1, 1, 0, 0, 0, 0, 0, 0, 0, 0, 0, 0, 0, 0, 0, 0, 0, 2, 0, 0, 0, 7, 1, 1, 0, 0, 0, 0, 0, 0, 0, 0, 0, 0, 0, 0, 0, 0, 0, (k : Int), e9], [true, true, setOkB ns, true], [.pointer (some ⟨nb, 0, none⟩)], [ns.length, cn, xs.length, cv, 0, 0, 0, 0, 0, 0, 0, 0, 0, 0, 0, 0, 0, 0, 0, 0, ns.length, c'], [an, av, none, none, none, none, none, none, none, none, a']⟩) rfl ?_
  refine ⟨fun vs hx m => ∃ (last d : Nat) (P : Pr Vl) (F : Nat → Prop), m = k + 1 - d ∧ d ≤ k + 1 ∧ vs = ⟨[(last : Int), (d : Int)], [], [], [], []⟩ ∧ d ≤ last ∧ SpS wn k ns last P ∧ P.out = [] ∧ OwnF w (fun _ => False) B2 F ∧ hx = B2.and (prP F nb P), fun ids w2 hp hf => ⟨_, k + 1, ⟨hf.x, hf.sep⟩, 0, 0, Ps, F5, rfl, Nat.zero_le _, by kernel_rfl, Nat.le_refl _, hS0, hou0, hF5, rfl⟩, ?_⟩
  rintro vs hx' m hcnt3 ⟨last, d, P3, F6, rfl, hd, rfl, hdl, hS3, hou3, hF6, rfl⟩
  have hle3 := hS3.le
  refine holds_env (ρ' := ⟨[win, ah, 1, 0, 0, 0, 7, 1, 1, 0, 0, 0, 0, 0, 0, 0, 0, 0, 0, 0, 0, 0, 0, 0, 2, 0, 0, 0, 7, 1, 1, 0, 0, 0, 0, 0, 0, 0, 0, 0, 0, 0, 0, 0, 0, 0, (k : Int), e9, (last : Int), (d : Int)], [true, true, setOkB ns, true], [.pointer (some ⟨nb, 0, none⟩)], [ns.length, cn, xs.length, cv, 0, 0, 0, 0, 0, 0, 0, 0, 0, 0, 0, 0, 0, 0, 0, 0, ns.length, c'], [an, av, none, none, none, none, none, none, none, none, a']⟩) rfl ?_
  refine br_D (p := (d : Int) ≤ ifn .and .i64 ah 15) (by kernel_rfl) (fun hdk => ?_) (fun hdk => ?_)
  · rw [eN] at hdk
    obtain ⟨j, P4, hgo, hj, hS4, hou4, hend⟩ := sp_go hS3 hou3 hw0.1 (by omega) (d : Int) (by omega)
    have hml := sp_len (n := k) (ns := ns) (asked := last) (j := j) hj
    refine node_pgo (d : Int) _ P4 hF6 hgo (by unfold I64; omega) (by rw [hS3.wn]; exact hw0) (by rw [hS3.nx]; omega) (by rw [hS3.fr, hS3.q]; rw [List.length_drop, nVS_len]; simp only [List.length_nil]; omega) (by intros; kernel_rfl) (by intros; kernel_rfl) (by kernel_rfl) (by kernel_rfl) (by intros; kernel_rfl) ?_
    intro mp ma mc F7 hmp hlen hfit hown7 hms
    rw [hml] at hlen
    refine holds_env (ρ' := ⟨[win, ah, 1, 0, 0, 0, 7, 1, 1, 0, 0, 0, 0, 0, 0, 0, 0, 0, 0, 0, 0, 0, 0, 0, 2, 0, 0, 0, 7, 1, 1, 0, 0, 0, 0, 0, 0, 0, 0, 0, 0, 0, 0, 0, 0, 0, (k : Int), e9, (last : Int), (d : Int)], [true, true, setOkB ns, true], [.pointer (some ⟨nb, 0, none⟩)], [ns.length, cn, xs.length, cv, 0, 0, 0, 0, 0, 0, 0, 0, 0, 0, 0, 0, 0, 0, 0, 0, ns.length, c', j, mc], [an, av, none, none, none, none, none, none, none, none, a', ma]⟩) (by rw [hml]; rfl) ?_
    obtain ⟨R, eR⟩ : ∃ x, x = (B2.and (mall mp)).and (mrow ma mc P4.r P4.n mp) := ⟨_, rfl⟩
    refine holds_eq (congrArg (fun z => z.and (prP F7 nb P4)) eR.symm) ?_
    have RX : ∀ {w}, R.X w → ((B2.and (mall mp)).and (mrow ma mc P4.r P4.n mp)).X w := fun h => by rw [← eR]; exact h
    have RF : ∀ {k}, B2.F k → R.F k := fun h => by rw [eR]; exact .inl (.inl h)
    rw [← eR] at hown7
    refine ⟨fun vs hx m => ∃ (t : Nat) (F : Nat → Prop), m = j - t ∧ t ≤ j ∧ vs = ⟨[((last + t : Nat) : Int), (t : Int)], [], [], [], []⟩ ∧ OwnF w (fun _ => False) R F ∧ hx = R.and (prP F nb { P4 with out := numb ((last : Int) + 1 + t) ((((nVS k ns).drop last).take j).drop t) }), fun ids w2 hp hf => ⟨R.and (prP F7 nb P4), j, ⟨hf.x, hf.sep⟩, 0, F7, rfl, Nat.zero_le _, by kernel_rfl, hown7, ?_⟩, ?_⟩
    · rw [List.drop_zero, show (last : Int) + 1 + ((0 : Nat) : Int) = (last : Int) + 1 by omega, ← hou4]
    rintro vs hx' m hcnt4 ⟨t, F8, rfl, htj, rfl, hF8, rfl⟩
    refine holds_env (ρ' := ⟨[win, ah, 1, 0, 0, 0, 7, 1, 1, 0, 0, 0, 0, 0, 0, 0, 0, 0, 0, 0, 0, 0, 0, 0, 2, 0, 0, 0, 7, 1, 1, 0, 0, 0, 0, 0, 0, 0, 0, 0, 0, 0, 0, 0, 0, 0, (k : Int), e9, (last : Int), (d : Int), ((last + t : Nat) : Int), (t : Int)], [true, true, setOkB ns, true], [.pointer (some ⟨nb, 0, none⟩)], [ns.length, cn, xs.length, cv, 0, 0, 0, 0, 0, 0, 0, 0, 0, 0, 0, 0, 0, 0, 0, 0, ns.length, c', j, mc], [an, av, none, none, none, none, none, none, none, none, a', ma]⟩) rfl ?_
    refine br_D (p := (t : Int) < (j : Int)) (by kernel_rfl) (fun ht => ?_) (fun ht => ?_)
    · have ht : t < j := by omega
      obtain ⟨v, hv1, hv2, hv3⟩ := sp_at (n := k) (ns := ns) (asked := last) hj ht
      obtain ⟨q, g1, h1, h2⟩ := mp_get hmp hv2
      have hne : mp ≠ [] := fun e => by rw [e] at g1; cases g1
      have hm := hms hne
      have w1 : IntKind.i64.wrap (((last + t : Nat) : Int) + 1) = ((last + t + 1 : Nat) : Int) := by rw [wrap_i64 (by omega)]; omega
      have w2 : IntKind.i64.wrap ((k : Int) + 1) = ((k + 1 : Nat) : Int) := by rw [wrap_i64 (by omega)]; omega
      have w4 : IntKind.i64.wrap ((t : Int) + 1) = ((t + 1 : Nat) : Int) := by rw [wrap_i64 (by omega)]; omega
      have hk2 := nVS_at hv1
      refine need_k (ma.isSome = true ∧ 0 ≤ (t : Int) ∧ (t : Int) < (j : Int)) (by kernel_rfl) ⟨hm, by omega, by omega⟩ ?_
      refine node_ldk ⟨[4, 0, 0, 0, P4.r, P4.n, q.1, 0, 0, q.2.v.k, 0, 0, 0, 0, 0, 0, 0, 0, 0, 0, 0], [], [], [q.2.v.cs.length, q.2.c1, q.2.v.ns.length, q.2.c2, 0, 0, 0, 0], [q.2.a1, q.2.a2, none, none]⟩ (fun _ => .pointer (some (((ma.getD ⟨0, 0, none⟩).add (t * 25)).add 0))) (mgC P4.r P4.n q) (by intros; kernel_rfl) (by intros; kernel_rfl) (fun ids w hp hf => (mg_cells (RX hf.x.1).2 g1 0 _ (fun j u hj => by rw [Nat.zero_add]; exact hj) (by simp [mgC])).2) (by kernel_rfl) oneNil ?_
      refine br_F (q.1 != IntKind.i64.wrap (((last + t : Nat) : Int) + 1)) (by kernel_rfl) (by rw [w1, h1]; simp; omega) ?_
      refine br_F (!((q.2.v.k == 2) == (IntKind.i64.wrap (((last + t : Nat) : Int) + 1) == IntKind.i64.wrap (ifn .and .i64 ah 15 + 1)))) (by kernel_rfl) ?_ ?_
      · rw [eN, w1, w2, h2, hk2]
        by_cases e : last + t = k
        · rw [decide_eq_true e, e]; simp
        · rw [decide_eq_false e, show (((last + t + 1 : Nat) : Int) == ((k + 1 : Nat) : Int)) = false by rw [beq_eq_false_iff_ne]; omega]; rfl
      refine node_pdec q.1 hF8 (by intros; kernel_rfl) (by intros; kernel_rfl) (by kernel_rfl) (by kernel_rfl) (by kernel_rfl) ?_
      intro F9 hF9
      refine again_V ⟨[IntKind.i64.wrap (((last + t : Nat) : Int) + 1), IntKind.i64.wrap ((t : Int) + 1)], [], [], [], []⟩ rfl (by intros; kernel_rfl) _ (fun w2 ids hf => ⟨hf.x, hf.sep⟩) ⟨j - (t + 1), by omega, t + 1, F9, rfl, by omega, by rw [w1, w4]; rfl, hF9, ?_⟩
      rw [hv3, h1]
      show R.and (prP F9 nb { P4 with out := mdel (numb ((last : Int) + 1 + t) (v :: _)) ((last : Int) + 1 + t) }) = _
      rw [numb_del, show (last : Int) + 1 + (t : Int) + 1 = (last : Int) + 1 + ((t + 1 : Nat) : Int) by omega]
    · have hte : t = j := by omega
      subst hte
      have w5 : IntKind.i64.wrap ((d : Int) + 1) = ((d + 1 : Nat) : Int) := by rw [wrap_i64 (by omega)]; omega
      have hnil : (((nVS k ns).drop last).take t).drop t = [] := List.drop_eq_nil_of_le (by rw [List.length_take]; omega)
      rw [hnil]
      refine again_V ⟨[((last + t : Nat) : Int), IntKind.i64.wrap ((d : Int) + 1)], [], [], [], []⟩ rfl (by intros; kernel_rfl) (B2.and (prP F8 nb { P4 with out := [] })) (fun w2 ids hf => ⟨⟨(RX hf.x.1).1.1, hf.x.2⟩, fun q hq => hq.elim (fun z => hf.sep q (.inl (RF z))) fun z => hf.sep q (.inr z)⟩) ⟨k + 1 - (d + 1), by omega, last + t, d + 1, { P4 with out := [] }, F8, rfl, by omega, by rw [w5], by omega, ⟨hS4.ph, hS4.r, hS4.nn, hS4.wn, hS4.nx, hS4.fr, hS4.q, hS4.le, hS4.st⟩, rfl, fun q hq => ⟨fun z => (hF8 q hq).1 (RF z), (hF8 q hq).2⟩, rfl⟩
  · rw [eN] at hdk
    have hlast : last = k + 1 := by omega
    subst hlast
    have hq3 : P3.queue = [] := by rw [hS3.q]; exact List.drop_eq_nil_of_le (by rw [nVS_len]; omega)
    have w2 : IntKind.i64.wrap ((k : Int) + 1) = ((k + 1 : Nat) : Int) := by rw [wrap_i64 (by omega)]; omega
    refine node_pwait 0 0 (by rw [hq3]; rfl) (by rw [hou3]; rfl) (by rw [hou3]; exact Nat.zero_le _) (by intros; kernel_rfl) (by intros; kernel_rfl) (by kernel_rfl) (by kernel_rfl) (by kernel_rfl) ?_
    refine br_T (((k + 1 : Nat) : Int) == IntKind.i64.wrap (ifn .and .i64 ah 15 + 1)) (by kernel_rfl) (by rw [eN, w2]; simp) ?_
    refine br_T true (by kernel_rfl) rfl ?_
    refine br_T true (by kernel_rfl) rfl ?_
    refine node_pstop true hS3.st (by intros; kernel_rfl) (by intros; kernel_rfl) (by kernel_rfl) (by kernel_rfl) (by kernel_rfl) ?_
    refine br_T true (by kernel_rfl) rfl ?_
    have htop : P3.top = ((k + 1 : Nat) : Int) := by unfold Pr.top; rw [if_pos hS3.ph, hS3.nx]; omega
    refine node_ptop ((k + 1 : Nat) : Int) htop (by rw [hS3.nx]; omega) (by intros; kernel_rfl) (by intros; kernel_rfl) (by kernel_rfl) (by kernel_rfl) (by kernel_rfl) ?_
    refine pure_out (fun _ => id) (fun ids => ?_)
    have : (((k + 1 : Nat) : Int) == IntKind.i64.wrap (ifn .and .i64 ah 15 + 1)) = true := by rw [eN, w2]; simp
    exact congrArg Value.bool this
theorem stops_args (win ah : Int) (an : Option Addr) (cn : Nat) (ns : List Int) (a : Option Addr) (cap : Nat) (ds : List Dat) (w : World) (hwin : I64 win) (hah : I64 ah) (Hn : Ints w an ns) (sn : ns.length * 8 ≤ 140737488351232) (h1 : Cells w a (Dat.cellsAll ds)) (h2 : ∀ d ∈ ds, d.In Try.prog w 31) (h3 : ds.length ≤ 9223372036854775807) (h4 : ds.length * Try.prog.bytesOf 31 ≤ reachBytes) : Calls Try.prog 5 #[.int .i64 win, .int .i64 ah, .slice an ns.length cn, .slice a ds.length cap] w (PureAt w (.bool true)) := by
  obtain ⟨xs, e1, e2, hxs⟩ := opn_pvs ds h2
  rw [e2] at h1
  rw [← e1] at h3 h4 ⊢
  refine stops_walk win ah an cn ns a cap xs w hwin Hn sn h1 hxs ?_
  have : Try.prog.bytesOf 31 = 56 := by kernel_rfl
  rw [this] at h4
  have := reach_is
  omega
end Go.Proofs.Ytlgpjjgkdpmidaa
