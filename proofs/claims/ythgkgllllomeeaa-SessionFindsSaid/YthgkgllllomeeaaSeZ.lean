/- The law SessionFinds. -/
import Derived.Test.YthgkgllllomeeaaSeY
import Derived.Test.YthgkgllllomeeaaDat
namespace Go.Proofs.Ythgkgllllomeeaa
open Go.ChangeShapes Go.WideShapes Go.ChangeAt Go.RowKit Go.Syn Go.Eng
set_option linter.unusedVariables false
set_option linter.unusedSimpArgs false
set_option maxRecDepth 100000
def FjI (H0 : HX) (vs : Vals) (hx : HX) : Prop := (∃ b1 b2 : Bool, vs = ⟨[], [b1, b2], [], [], []⟩) ∧ hx = H0
def FkI (H1 : HX) (m : Nat) (a : Option Addr) (c : Nat) (vs : Vals) (hx : HX) : Prop := ∃ (k : Nat) (xs : List Value), k ≤ m ∧ xs.length = m * 4 ∧ vs = ⟨[(k : Int)], [], [], [], []⟩ ∧ hx = H1.and (HX.rw 4 48 a m c xs)
/-- Where sessions lie. -/
def shp (e : SE) : Option Addr × Nat × Nat := (e.a, e.c, e.s.kept.length)
def FlI (H2 : HX) (a : Option Addr) (c : Nat) (es : List SE) (n : Nat) (vs : Vals) (hx : HX) : Prop := ∃ (k : Nat) (fs : List SE), k ≤ n ∧ fs.map shp = es.map shp ∧ Dj a c fs ∧ (tabR a c fs).F = (tabR a c es).F ∧ vs = ⟨[(k : Int)], [], [], [], []⟩ ∧ hx = H2.and (tabR a c fs)
theorem shp_at {es fs : List SE} (h : fs.map shp = es.map shp) {i : Nat} {e : SE} (he : es[i]? = some e) : ∃ f, fs[i]? = some f ∧ f.a = e.a ∧ f.c = e.c ∧ f.s.kept.length = e.s.kept.length := by
  have h1 : (fs.map shp)[i]? = (es.map shp)[i]? := by rw [h]
  rw [List.getElem?_map, List.getElem?_map, he] at h1
  cases h4 : fs[i]? with
  | none => rw [h4] at h1; cases h1
  | some f =>
    rw [h4] at h1
    simp only [Option.map_some, Option.some.injEq, shp, Prod.mk.injEq] at h1
    exact ⟨f, rfl, h1.1, h1.2.1, h1.2.2⟩
theorem at_nonneg (t : List SsD) (no : Int) : decide (atV t no ≥ 0) = hitI (nosT t) no := by
  unfold atV
  rcases Bool.eq_false_or_eq_true (hitI (nosT t) no) with h | h
  · rw [if_pos h, h]; exact decide_eq_true (by omega)
  · rw [if_neg (by rw [h]; decide), h]; exact decide_eq_false (by omega)
set_option maxHeartbeats 8000000 in
theorem finds_walk (a : Option Addr) (cap : Nat) (es : List SE) (no : Int) (w : World) (H : TbAt w a es) (hl : es.length * 40 ≤ 140737488351232) (hk : ∀ e ∈ es, e.s.kept.length * 32 ≤ 140737488351232) (hcap : es.length ≤ cap) : Calls Try.prog 4 #[.slice a es.length cap, .int .i64 no] w (PureAt w (.bool true)) := by
  refine calls_at (tab_ok _) Try.func4 rfl tFinds (ρ := ⟨[no], [], [], [es.length, cap], [a]⟩) (ids := []) (hx := HX.nil) rfl (Facts.initP rfl oneNil) ?_
  have keep : ∀ {m : Mem} {ρ : Env} {ids : List Nat} {hx : HX} {w2 : World} {R : Ending → World → Prop}, Facts ⟨Try.prog, w, fun _ => False, R⟩ m ρ ids hx w2 → TbAt w2 a es := fun hf => H.keep (fun k hk => hf.chg.block k hk (fun q => q))
  obtain ⟨t, et⟩ : ∃ t, t = es.map SE.s := ⟨_, rfl⟩
  have htl : t.length = es.length := by rw [et, List.length_map]
  refine node_P ⟨[], [true], [], [], []⟩ #[] (.bool true) (by intros; kernel_rfl) (by intros; kernel_rfl) (by intros; kernel_rfl) (by intros; kernel_rfl) (by intros; kernel_rfl) oneNil (fun ids w2 hp hf => head_any w2) ?_
  refine br_f (by kernel_rfl) ?_
  refine node_tb (V := id) (tb := t) (fun _ => #[.slice a es.length cap]) (fun a' c' => ⟨[], [], [], [t.length, c'], [a']⟩) (by intros; kernel_rfl) (fun ids w2 hp hf => by
    rw [et]; exact rcopy_any a cap es w2 (keep hf) hl hk) (by intros; kernel_rfl) (by kernel_rfl) (by kernel_rfl) (by intros; kernel_rfl) (fun _ _ => oneNil) ?_
  intro a1 c1 es1 hm1 hdj1 hsm1 hnew1
  have hl1 : es1.length = t.length := by rw [← hm1, List.length_map]
  refine holds_env (ρ' := ⟨[no], [true], [], [es.length, cap, es1.length, c1], [a, a1]⟩) (by rw [hl1]; kernel_rfl) ?_
  refine holds_eq (HX.nil_and _) ?_
  obtain ⟨V, eV⟩ : ∃ V, V = validT t := ⟨_, rfl⟩
  refine node_valid (fun _ => a1) es1.length c1 es1 V (by intros; kernel_rfl) rfl (fun ids w2 hp hf => tabR_at hf.x) (by omega) (by rw [hm1, eV]) (by intros; kernel_rfl) (by kernel_rfl) (by kernel_rfl) (by kernel_rfl) ?_
  refine node_P ⟨[], [V], [], [], []⟩ #[.slice a es.length cap] (.bool V) (by intros; kernel_rfl) (by intros; kernel_rfl) (by intros; kernel_rfl) (by intros; kernel_rfl) (by intros; kernel_rfl) oneNil (fun ids w2 hp hf => by
    rw [eV, et]; exact rvalid_any a cap es w2 (keep hf)) ?_
  refine br_F (!(V == V)) (by kernel_rfl) (by simp) ?_
  refine node_P ⟨[], [V], [], [], []⟩ #[.slice a es.length cap] (.bool V) (by intros; kernel_rfl) (by intros; kernel_rfl) (by intros; kernel_rfl) (by intros; kernel_rfl) (by intros; kernel_rfl) oneNil (fun ids w2 hp hf => by
    rw [eV, et]; exact rvalid_any a cap es w2 (keep hf)) ?_
  rcases Bool.eq_false_or_eq_true V with hV | hV
  rotate_left
  · exact br_T (!V) (by kernel_rfl) (by rw [hV]; rfl) (out_done (fun _ => id) (by intros; kernel_rfl))
  refine br_F (!V) (by kernel_rfl) (by rw [hV]; rfl) ?_
  have hvt : VT t := (validT_iff t).1 (by rw [← eV]; exact hV)
  have h16 := hvt.len
  have hk8 : ∀ {es' : List SE}, es'.map SE.s = t → ∀ e ∈ es', e.s.kept.length ≤ 8 := fun h e he => (hvt.each e.s (by rw [← h]; exact List.mem_map_of_mem he)).len
  refine node_tb (V := id) (tb := t) (fun _ => #[.slice a1 es1.length c1]) (fun a' c' => ⟨[], [], [], [t.length, c'], [a']⟩) (by intros; kernel_rfl) (fun ids w2 hp hf => by
    have := tclone_any a1 c1 es1 w2 (tabR_at hf.x) (by omega) (fun e he => by have := hk8 hm1 e he; omega)
    rw [hm1] at this; exact this) (by intros; kernel_rfl) (by kernel_rfl) (by kernel_rfl) (by intros; kernel_rfl) (fun _ _ => oneNil) ?_
  intro a2 c2 es2 hm2 hdj2 hsm2 hnew2
  have hl2 : es2.length = t.length := by rw [← hm2, List.length_map]
  refine holds_env (ρ' := ⟨[no], [true, V, V, V], [], [es.length, cap, es1.length, c1, es2.length, c2], [a, a1, a2]⟩) (by rw [hl2]; kernel_rfl) ?_
  obtain ⟨s, es_⟩ : ∃ s, s = findS t no := ⟨_, rfl⟩
  obtain ⟨hit, eh⟩ : ∃ h, h = hitI (nosT t) no := ⟨_, rfl⟩
  have hsk : s.kept.length ≤ 8 := by
    rw [es_]; unfold findS
    split
    · cases h4 : t[posI (nosT t) no]? with
      | none => exact Nat.zero_le _
      | some x => exact (hvt.each x (List.mem_of_getElem? h4)).len
    · exact Nat.zero_le _
  refine node_rwn (V := fun v => .tuple #[.agg #[.int .i64 s.no, .int .i64 s.ack, v], .bool hit]) (sz := 4) (e := 48) (n := s.kept.length) (xs := kcells s.kept) (fun _ => #[.slice a1 es1.length c1, .int .i64 no]) (fun a' c' => ⟨[s.no, s.ack], [hit], [], [s.kept.length, c'], [a']⟩) (by intros; kernel_rfl) (fun ids w2 hp hf => by
    have := tfind_any a1 c1 es1 no w2 (tabR_at hf.x.1) (by rw [hm1]; exact hvt.ok)
    rw [hm1, ← es_, ← eh] at this; exact this) (by intros; kernel_rfl) (by kernel_rfl) (by kernel_rfl) (by intros; kernel_rfl) (fun _ _ => oneNil) ?_
  intro a3 c3 hsm3 hnew3
  obtain ⟨at_, eat⟩ : ∃ x, x = atV t no := ⟨_, rfl⟩
  refine node_P ⟨[at_], [], [], [], []⟩ #[.slice a es.length cap, .int .i64 no] (.int .i64 at_) (by intros; kernel_rfl) (by intros; kernel_rfl) (by intros; kernel_rfl) (by intros; kernel_rfl) (by intros; kernel_rfl) oneNil (fun ids w2 hp hf => by
    rw [eat, et]; exact rat_any a cap es no w2 (keep hf) (by rw [← et]; exact hvt.nos) (by omega)) ?_
  obtain ⟨H1, eH1⟩ : ∃ h : HX, h = (tabR a1 c1 es1).and (tabR a2 c2 es2) := ⟨_, rfl⟩
  rw [← eH1] at hnew3
  rw [← eH1]
  refine ⟨FjI (H1.and (HX.rw 4 48 a3 s.kept.length c3 (kcells s.kept))), ?_, ?_⟩
  · refine br_F (!(hit == decide (at_ ≥ 0))) (by kernel_rfl) (by rw [eat, at_nonneg, eh]; simp) ?_
    rcases Bool.eq_false_or_eq_true hit with hh | hh
    rotate_left
    · refine br_F hit (by kernel_rfl) hh ?_
      exact again_V ⟨[], [false, false], [], [], []⟩ rfl (by intros; kernel_rfl) _ (fun w2 ids hf => ⟨hf.x, hf.sep⟩) ⟨⟨_, _, rfl⟩, rfl⟩
    refine br_T hit (by kernel_rfl) hh ?_
    obtain ⟨i, ei⟩ : ∃ i, i = posI (nosT t) no := ⟨_, rfl⟩
    have hai : at_ = (i : Int) := by rw [eat, ei]; unfold atV; rw [if_pos (by rw [← eh]; exact hh)]
    obtain ⟨s', hs', _, h1', _⟩ := tabS_at t no
    have hti := h1' (by rw [← eh]; exact hh)
    rw [← ei] at hti
    have hss : s = s' := by rw [es_]; unfold findS; rw [if_pos (by rw [← eh]; exact hh), ← ei, hti]; rfl
    obtain ⟨e, he, hes⟩ : ∃ e, es[i]? = some e ∧ e.s = s := by
      rw [et, List.getElem?_map] at hti
      cases h4 : es[i]? with
      | none => rw [h4] at hti; cases hti
      | some x => rw [h4] at hti; simp only [Option.map_some, Option.some.injEq] at hti; exact ⟨x, rfl, by rw [hti, hss]⟩
    have hi := (List.getElem?_eq_some_iff.1 he).1
    have hwi : IntKind.i64.wrap ((i : Int) + 1) = ((i + 1 : Nat) : Int) := by rw [wrap_i64 (by omega)]; omega
    subst hai
    have hfs : ((secells es).drop (i * 3)).take 3 = secells [e] := by
      unfold secells
      rw [flat_drop se_len, List.drop_eq_getElem_cons hi, (List.getElem?_eq_some_iff.1 he).2, List.flatMap_cons, List.take_append_of_le_length (by rw [se_len]; decide), List.take_of_length_le (by rw [se_len]; decide)]
      simp
    have hTb : ∀ {w2 : World}, TbAt w2 a es → TbAt w2 (sliA a i cap 3) [e] := fun {w2} HH => ⟨by
      have := sli_cells HH.row i 3 cap 3 (by rw [secells_len]; omega) (by rw [secells_len]; omega) (by decide)
      rw [hfs] at this; exact this, fun x hx => by rw [List.mem_singleton.1 hx]; exact HH.each e (List.mem_of_getElem? he)⟩
    refine ⟨?_, ?_⟩
    all_goals
      refine node_span (l := i) (u := i + 1) (n := es.length) (cap := cap) (sz := 3) a Try.underlying24 (by kernel_rfl) info_se (by intros; kernel_rfl) (by intros; kernel_rfl) (fun ids => Eq.trans (b := .int .i64 (IntKind.i64.wrap ((i : Int) + 1))) (by kernel_rfl) (by rw [hwi])) (by omega) (by omega) (by intros; kernel_rfl) (by kernel_rfl) (by kernel_rfl) (by kernel_rfl) ?_
      refine node_PI ⟨[], [true], [], [], []⟩ (fun ids => #[.slice (some ⟨idAt ids 1, 0, none⟩) 1 1, .slice (sliA a i cap 3) (i + 1 - i) (cap - i)]) (.bool true) (by intros; kernel_rfl) (by intros; kernel_rfl) (by kernel_rfl) (by kernel_rfl) (by kernel_rfl) oneNil (fun ids w2 hp hf => ?_) ?_
      · have h1 : TbAt w2 (some ⟨idAt ids 1, 0, none⟩) [⟨s, a3, c3⟩] := ⟨blk_cells (hf.blkAt 1 rfl), fun x hx => by rw [List.mem_singleton.1 hx]; exact rw_cells hf.x.2⟩
        have := rsame_any (some ⟨idAt ids 1, 0, none⟩) 1 [⟨s, a3, c3⟩] (sliA a i cap 3) (cap - i) [e] w2 h1 (hTb (keep hf)) (show [s] = [e.s] from by rw [hes]) (by decide : 1 ≤ 1000000) (fun x hx => by rw [List.mem_singleton.1 hx]; exact Nat.le_trans hsk (by decide))
        rw [show i + 1 - i = 1 by omega]
        exact this
      refine br_f (by kernel_rfl) ?_
      exact again_V ⟨[], [true, true], [], [], []⟩ rfl (by intros; kernel_rfl) _ (fun w2 ids hf => ⟨hf.x, hf.sep⟩) ⟨⟨_, _, rfl⟩, rfl⟩
  rintro vs hx' hcnt ⟨⟨b1, b2, rfl⟩, rfl⟩
  refine holds_env (ρ' := ⟨[no, s.no, s.ack, at_], [true, V, V, V, hit, b1, b2], [], [es.length, cap, es1.length, c1, es2.length, c2, s.kept.length, c3], [a, a1, a2, a3]⟩) (by kernel_rfl) ?_
  obtain ⟨m, em⟩ : ∃ m, m = s.kept.length := ⟨_, rfl⟩
  have hsm3' : m ≠ 0 → a3.isSome = true := fun q => hsm3 (kc_ne (fun z => q (by rw [em, z]; rfl)))
  have hsl : (kcells s.kept).length = m * 4 := by rw [kcells_len, em]
  rw [← em] at hsk ⊢
  refine loop_i (FkI H1 m a3 c3) (fun vs => m - (vs.i.headD 0).toNat) (fun ids w2 hp hf => ⟨_, ⟨hf.x, hf.sep⟩, 0, kcells s.kept, Nat.zero_le _, hsl, by kernel_rfl, rfl⟩) ?_
  rintro vs hx' hcnt2 ⟨k, xs, hkm, hxs, rfl, rfl⟩
  refine holds_env (ρ' := ⟨[no, s.no, s.ack, at_, (k : Int)], [true, V, V, V, hit, b1, b2], [], [es.length, cap, es1.length, c1, es2.length, c2, m, c3], [a, a1, a2, a3]⟩) (by kernel_rfl) ?_
  by_cases hlt : k < m
  · refine br_T (decide ((k : Int) < (m : Int))) (by kernel_rfl) (decide_eq_true (by omega)) ?_
    refine need_k (a3.isSome = true ∧ (0 : Int) ≤ k ∧ (k : Int) < m) (by kernel_rfl) ⟨hsm3' (by omega), by omega, by omega⟩ ?_
    refine node_stores (sz := 4) a3 m c3 xs [.int .i64 (-1)] k 0 (.int .i64 (-1)) (by kernel_rfl) (by intros; kernel_rfl) (by intros; kernel_rfl) rfl (by simp [Value.oneCell']) (by simp; omega) (by simp) (fun q h1 h2 hF => (hnew3 q h1 h2).2 hF) (fun q h1 h2 => .inl (hnew3 q h1 h2).1) (by kernel_rfl) (by kernel_rfl) (by kernel_rfl) ?_
    have hwk : IntKind.i64.wrap ((k : Int) + 1) = ((k + 1 : Nat) : Int) := by rw [wrap_i64 (by omega)]; omega
    exact again_V ⟨[((k + 1 : Nat) : Int)], [], [], [], []⟩ rfl (fun ids => Eq.trans (b := ⟨[IntKind.i64.wrap ((k : Int) + 1)], [], [], [], []⟩) (by kernel_rfl) (by rw [hwk])) _ (fun w2 ids hf => ⟨hf.x, hf.sep⟩) ⟨⟨k + 1, _, by omega, by rw [spl_len (by rw [hxs, List.length_singleton]; omega)]; exact hxs, rfl, rfl⟩, by
      show m - (((k + 1 : Nat) : Int)).toNat < m - ((k : Int)).toNat
      omega⟩
  refine br_F (decide ((k : Int) < (m : Int))) (by kernel_rfl) (decide_eq_false (by omega)) ?_
  obtain ⟨H2, eH2⟩ : ∃ h : HX, h = (tabR a2 c2 es2).and (HX.rw 4 48 a3 m c3 xs) := ⟨_, rfl⟩
  have hd2 : ∀ q, (tabR a1 c1 es1).F q → ¬ H2.F q := fun q h1 h2 => by
    rw [eH2] at h2
    rcases h2 with h2 | h2
    · exact (hnew2 q h2).2 h1
    · exact (hnew3 q h2.1 h2.2).2 (by rw [eH1]; exact .inl h1)
  have hn1 : ∀ q, (tabR a1 c1 es1).F q → w.heap.size ≤ q := fun q h => (hnew1 q h).1
  refine holds_eq (show _ = H2.and (tabR a1 c1 es1) from by rw [eH1, eH2, HX.and_assoc, HX.and_comm]) ?_
  refine loop_i (FlI H2 a1 c1 es1 es1.length) (fun vs => es1.length - (vs.i.headD 0).toNat) (fun ids w2 hp hf => ⟨_, ⟨hf.x, hf.sep⟩, 0, es1, Nat.zero_le _, rfl, hdj1, rfl, by kernel_rfl, rfl⟩) ?_
  rintro vs hx' hcnt3 ⟨j, fs, hj, hsh, hdjf, hFf, rfl, rfl⟩
  refine holds_env (ρ' := ⟨[no, s.no, s.ack, at_, (k : Int), (j : Int)], [true, V, V, V, hit, b1, b2], [], [es.length, cap, es1.length, c1, es2.length, c2, m, c3], [a, a1, a2, a3]⟩) (by kernel_rfl) ?_
  by_cases hltj : j < es1.length
  rotate_left
  · refine br_F (decide ((j : Int) < (es1.length : Int))) (by kernel_rfl) (decide_eq_false (by omega)) ?_
    refine node_P ⟨[], [true], [], [], []⟩ #[.slice a2 es2.length c2, .slice a es.length cap] (.bool true) (by intros; kernel_rfl) (by intros; kernel_rfl) (by intros; kernel_rfl) (by intros; kernel_rfl) (by intros; kernel_rfl) oneNil (fun ids w2 hp hf => ?_) (out_done (fun _ => id) (by intros; kernel_rfl))
    have hx2 := hf.x.1
    rw [eH2] at hx2
    exact rsame_any a2 c2 es2 a cap es w2 (tabR_at hx2.1) (keep hf) (by rw [hm2, et]) (by omega) (fun e he => Nat.le_trans (hk8 hm2 e he) (by decide))
  refine br_T (decide ((j : Int) < (es1.length : Int))) (by kernel_rfl) (decide_eq_true (by omega)) ?_
  obtain ⟨e, he⟩ : ∃ e, es1[j]? = some e := ⟨_, List.getElem?_eq_getElem hltj⟩
  have hem := List.mem_of_getElem? he
  have hwe : es1 ≠ [] := fun q => by rw [q] at hltj; simp at hltj
  have n1 : a1.isSome = true ∧ (0 : Int) ≤ j ∧ (j : Int) < es1.length := ⟨hsm1.tab hwe, by omega, by omega⟩
  refine need_k (a1.isSome = true ∧ (0 : Int) ≤ j ∧ (j : Int) < es1.length) (by kernel_rfl) n1 ?_
  obtain ⟨l, el⟩ : ∃ l, l = e.s.kept.length := ⟨_, rfl⟩
  have hl8 : l ≤ 8 := by rw [el]; exact hk8 hm1 e hem
  have cell2 : ∀ {fs : List SE}, fs.map shp = es1.map shp → ∀ {w2 : World}, Cells w2 a1 (secells fs) → CellsAt w2 (.pointer (some (((a1.getD ⟨0, 0, none⟩).add (j * 3)).add 2))) [.slice e.a l e.c] (fun _ => False) := fun {fs} h {w2} hc => by
    obtain ⟨f, hf, f1, f2, f3⟩ := shp_at h he
    exact se_key j f hf (n := 0) (by rw [el, ← f1, ← f2, ← f3]; rfl) hc
  refine node_ldk ⟨[], [], [], [l, e.c], [e.a]⟩ (fun _ => .pointer (some (((a1.getD ⟨0, 0, none⟩).add (j * 3)).add 2))) [.slice e.a l e.c] (by intros; kernel_rfl) (by intros; kernel_rfl) (fun ids w2 hp hf => cell2 hsh (rw_cells hf.x.2.2)) (by kernel_rfl) oneNil ?_
  refine loop_i (FlI H2 a1 c1 es1 l) (fun vs => l - (vs.i.headD 0).toNat) (fun ids w2 hp hf => ⟨_, ⟨hf.x, hf.sep⟩, 0, fs, Nat.zero_le _, hsh, hdjf, hFf, by kernel_rfl, rfl⟩) ?_
  rintro vs hx' hcnt4 ⟨p, gs, hpl, hsh2, hdjg, hFg, rfl, rfl⟩
  refine holds_env (ρ' := ⟨[no, s.no, s.ack, at_, (k : Int), (j : Int), (p : Int)], [true, V, V, V, hit, b1, b2], [], [es.length, cap, es1.length, c1, es2.length, c2, m, c3, l, e.c], [a, a1, a2, a3, e.a]⟩) (by kernel_rfl) ?_
  by_cases hltp : p < l
  rotate_left
  · refine br_F (decide ((p : Int) < (l : Int))) (by kernel_rfl) (decide_eq_false (by omega)) ?_
    have hwj : IntKind.i64.wrap ((j : Int) + 1) = ((j + 1 : Nat) : Int) := by rw [wrap_i64 (by omega)]; omega
    exact again_V ⟨[((j + 1 : Nat) : Int)], [], [], [], []⟩ rfl (fun ids => Eq.trans (b := ⟨[IntKind.i64.wrap ((j : Int) + 1)], [], [], [], []⟩) (by kernel_rfl) (by rw [hwj])) _ (fun w2 ids hf => ⟨hf.x, hf.sep⟩) ⟨⟨j + 1, gs, by omega, hsh2, hdjg, hFg, rfl, rfl⟩, by
      show es1.length - (((j + 1 : Nat) : Int)).toNat < es1.length - ((j : Int)).toNat
      omega⟩
  refine br_T (decide ((p : Int) < (l : Int))) (by kernel_rfl) (decide_eq_true (by omega)) ?_
  refine need_k (a1.isSome = true ∧ (0 : Int) ≤ j ∧ (j : Int) < es1.length) (by kernel_rfl) n1 ?_
  refine node_ldk ⟨[], [], [], [l, e.c], [e.a]⟩ (fun _ => .pointer (some (((a1.getD ⟨0, 0, none⟩).add (j * 3)).add 2))) [.slice e.a l e.c] (by intros; kernel_rfl) (by intros; kernel_rfl) (fun ids w2 hp hf => cell2 hsh2 (rw_cells hf.x.2.2)) (by kernel_rfl) oneNil ?_
  refine need_k (e.a.isSome = true ∧ (0 : Int) ≤ p ∧ (p : Int) < l) (by kernel_rfl) ⟨hsm1.each e hem (fun z => by rw [el, z] at hltp; simp at hltp), by omega, by omega⟩ ?_
  obtain ⟨g, hg, g1, g2, g3⟩ := shp_at hsh2 he
  have hgm := List.mem_of_getElem? hg
  obtain ⟨x, hx⟩ : ∃ x, g.s.kept[p]? = some x := ⟨_, List.getElem?_eq_getElem (by omega)⟩
  obtain ⟨g', eg'⟩ : ∃ g' : SE, g' = ⟨⟨g.s.no, g.s.ack, g.s.kept.set p ⟨-2, x.kind, x.re, x.im⟩⟩, g.a, g.c⟩ := ⟨_, rfl⟩
  have hgl : g'.s.kept.length = g.s.kept.length := by rw [eg']; exact List.length_set ..
  have hkF : (kRow g').F = (kRow g).F := by rw [eg']; rfl
  have hdG := hdjg.one hg
  have hFin : ∀ q, (kRow g).F q → (tabR a1 c1 es1).F q := fun q hq => by rw [← hFg]; exact .inl ⟨g, hgm, hq⟩
  refine holds_eq (show _ = (H2.and ((ksR (gs.eraseIdx j)).and (tRow a1 c1 gs))).and (HX.rw 4 48 e.a l e.c (kcells g.s.kept)) from by unfold tabR; rw [ksR_split hg, HX.and_right_comm, ← HX.and_assoc]; unfold kRow; rw [g1, g2, g3, ← el]) ?_
  refine node_stores (sz := 4) e.a l e.c (kcells g.s.kept) [.int .i64 (-2)] p 0 (.int .i64 (-2)) (by kernel_rfl) (by intros; kernel_rfl) (by intros; kernel_rfl) rfl (by simp [Value.oneCell']) (by simp; omega) (by simp) (fun q h1 h2 hF => ?_) (fun q h1 h2 => .inl (hn1 q (hFin q ⟨by rw [g2]; exact h1, by rw [g1]; exact h2⟩))) (by kernel_rfl) (by kernel_rfl) (by kernel_rfl) ?_
  · have hq : (kRow g).F q := ⟨by rw [g2]; exact h1, by rw [g1]; exact h2⟩
    rcases hF with hF | hF | hF
    · exact hd2 q (hFin q hq) hF
    · exact (hdG q hq).1 hF
    · exact (hdG q hq).2 hF
  have hst : spl (kcells g.s.kept) (p * 4 + 0) [.int .i64 (-2)] = kcells g'.s.kept := by rw [eg']; exact flat_spl kp_len hx (by simp) rfl
  rw [hst]
  have hsec : secells (gs.set j g') = secells gs := by
    have h1 := flat_spl se_len hg (e' := g') (o := 0) (us := g.cells) (by rw [se_len]; decide) (by
      rw [show g'.cells = g.cells by unfold SE.cells; rw [hgl, eg']]
      unfold spl; rw [List.take_zero, List.nil_append, List.drop_of_length_le (by omega), List.append_nil])
    have h2 := flat_spl se_len hg (e' := g) (o := 0) (us := g.cells) (by rw [se_len]; decide) (by
      unfold spl; rw [List.take_zero, List.nil_append, List.drop_of_length_le (by omega), List.append_nil])
    have h3 : gs.set j g = gs := by
      obtain ⟨z1, z2⟩ := List.getElem?_eq_some_iff.1 hg
      rw [← z2]; exact List.set_getElem_self z1
    rw [h3] at h2
    exact h1.symm.trans h2
  have hT : tRow a1 c1 (gs.set j g') = tRow a1 c1 gs := by unfold tRow; rw [hsec, List.length_set]
  have hkr : kRow g' = HX.rw 4 48 e.a l e.c (kcells g'.s.kept) := by
    have z1 : g'.a = e.a := by rw [eg']; exact g1
    have z2 : g'.c = e.c := by rw [eg']; exact g2
    unfold kRow; rw [hgl, g3, ← el, z1, z2]
  refine holds_eq (show _ = H2.and (tabR a1 c1 (gs.set j g')) from by
    rw [← hkr]
    unfold tabR
    rw [ksR_set hg, hT, HX.and_assoc H2, HX.and_right_comm (ksR _) (tRow _ _ _) (kRow _)]) ?_
  have hwp : IntKind.i64.wrap ((p : Int) + 1) = ((p + 1 : Nat) : Int) := by rw [wrap_i64 (by omega)]; omega
  refine again_V ⟨[((p + 1 : Nat) : Int)], [], [], [], []⟩ rfl (fun ids => Eq.trans (b := ⟨[IntKind.i64.wrap ((p : Int) + 1)], [], [], [], []⟩) (by kernel_rfl) (by rw [hwp])) _ (fun w2 ids hf => ⟨hf.x, hf.sep⟩) ⟨⟨p + 1, gs.set j g', by omega, ?_, hdjg.set hg (fun q hq => hdG q (by rw [← hkF]; exact hq)), ?_, rfl, rfl⟩, ?_⟩
  · rw [← hsh2, List.map_set]
    refine List.ext_getElem? fun z => ?_
    by_cases hz : j = z
    · subst hz
      rw [List.getElem?_set_self (by rw [List.length_map]; exact (List.getElem?_eq_some_iff.1 hg).1), List.getElem?_map, hg]
      show some (shp g') = some (shp g)
      unfold shp; rw [hgl, eg']
    · rw [List.getElem?_set_ne hz]
  · rw [← hFg]
    show (fun q => (ksR (gs.set j g')).F q ∨ (tRow a1 c1 (gs.set j g')).F q) = (fun q => (ksR gs).F q ∨ (tRow a1 c1 gs).F q)
    funext q
    rw [ksR_set hg, hT, ksR_split hg]
    show ((_ ∨ (kRow g').F q) ∨ _) = ((_ ∨ (kRow g).F q) ∨ _)
    rw [hkF]
  · show l - (((p + 1 : Nat) : Int)).toNat < l - ((p : Int)).toNat
    omega
/-! ### The arguments -/
def kpDat (k : KpD) : Dat := .parts [.int .i64 k.seq, .parts [.int .i64 k.kind, .int .i64 k.re, .int .i64 k.im]]
def seDat (e : SE) : Dat := .parts [.int .i64 e.s.no, .int .i64 e.s.ack, .sl e.a e.s.kept.length e.c (e.s.kept.map kpDat)]
theorem kp_cells : ∀ l : List KpD, Dat.cellsAll (l.map kpDat) = kcells l
  | [] => rfl
  | c :: r => by
    show Dat.cellsAll (kpDat c :: r.map kpDat) = c.cells ++ kcells r
    rw [← kp_cells r]; rfl
theorem sedat_cells : ∀ l : List SE, Dat.cellsAll (l.map seDat) = secells l
  | [] => rfl
  | c :: r => by
    show Dat.cellsAll (seDat c :: r.map seDat) = c.cells ++ secells r
    rw [← sedat_cells r]; rfl
theorem opn_i {w : World} {d : Dat} (h : d.In Try.prog w 3) : ∃ k : Int, d = .int .i64 k := by
  obtain ⟨k, rfl, hk⟩ := in_int Try.underlying3 h
  exact ⟨k, rfl⟩
theorem opn_kp {w : World} {d : Dat} (h : d.In Try.prog w 48) : ∃ k : KpD, d = kpDat k ∧ True := by
  obtain ⟨ds, rfl, g⟩ := in_struct Try.underlying48 h
  obtain ⟨d0, r0, rfl, h0, g0⟩ := inEach_cons g
  obtain ⟨d1, r1, rfl, h1, g1⟩ := inEach_cons g0
  obtain rfl := inEach_nil g1
  obtain ⟨es, rfl, f⟩ := in_struct Try.underlying32 h1
  obtain ⟨e0, s0, rfl, k0, f1⟩ := inEach_cons f
  obtain ⟨e1, s1, rfl, k1, f2⟩ := inEach_cons f1
  obtain ⟨e2, s2, rfl, k2, f3⟩ := inEach_cons f2
  obtain rfl := inEach_nil f3
  obtain ⟨x0, rfl⟩ := opn_i h0
  obtain ⟨y0, rfl⟩ := opn_i k0
  obtain ⟨y1, rfl⟩ := opn_i k1
  obtain ⟨y2, rfl⟩ := opn_i k2
  exact ⟨⟨x0, y0, y1, y2⟩, rfl, trivial⟩
theorem opn_se {w : World} {d : Dat} (h : d.In Try.prog w 42) : ∃ e : SE, d = seDat e ∧ (Cells w e.a (kcells e.s.kept) ∧ e.s.kept.length * 32 ≤ 140737488351232) := by
  obtain ⟨ds, rfl, g⟩ := in_struct Try.underlying42 h
  obtain ⟨d0, r0, rfl, h0, g0⟩ := inEach_cons g
  obtain ⟨d1, r1, rfl, h1, g1⟩ := inEach_cons g0
  obtain ⟨d2, r2, rfl, h2, g2⟩ := inEach_cons g1
  obtain rfl := inEach_nil g2
  obtain ⟨x0, rfl⟩ := opn_i h0
  obtain ⟨x1, rfl⟩ := opn_i h1
  obtain ⟨a, cap, es, rfl, q1, q2, q3, q4, q5⟩ := in_slice Try.underlying40 h2
  obtain ⟨l, rfl, _⟩ := list_map_of kpDat (fun _ => True) es fun d hd => opn_kp (q5 d hd)
  rw [List.length_map] at q3 ⊢
  rw [kp_cells] at q4
  have hb : Try.prog.bytesOf 48 = 32 := by kernel_rfl
  have hr : reachBytes = 140737488351232 := by kernel_rfl
  rw [hb, hr] at q3
  exact ⟨⟨⟨x0, x1, l⟩, a, cap⟩, rfl, q4, q3⟩
theorem finds_args (a : Option Addr) (cap : Nat) (ds : List Dat) (no : Int) (w : World) (HO : Cells w a (Dat.cellsAll ds)) (hds : ∀ d ∈ ds, d.In Try.prog w 42) (_ : ds.length ≤ 9223372036854775807) (hb : ds.length * Try.prog.bytesOf 42 ≤ reachBytes) (hcap : ds.length ≤ cap) (_ : I64 no) :
    Calls Try.prog 4 #[.slice a ds.length cap, .int .i64 no] w (PureAt w (.bool true)) := by
  obtain ⟨es, rfl, hes⟩ := list_map_of seDat (fun e => Cells w e.a (kcells e.s.kept) ∧ e.s.kept.length * 32 ≤ 140737488351232) ds fun d hd => opn_se (hds d hd)
  rw [List.length_map] at hb hcap ⊢
  rw [sedat_cells] at HO
  have hbs : Try.prog.bytesOf 42 = 40 := by kernel_rfl
  have hr : reachBytes = 140737488351232 := by kernel_rfl
  rw [hbs, hr] at hb
  exact finds_walk a cap es no w ⟨HO, fun e he => (hes e he).1⟩ hb (fun e he => (hes e he).2) hcap
end Go.Proofs.Ythgkgllllomeeaa
