/- Sessions: the reference's Copy; Find told in one way. -/
import Derived.Test.YthgkgllllomeeaaSeS
namespace Go.Proofs.Ythgkgllllomeeaa
open Go.ChangeShapes Go.WideShapes Go.ChangeAt Go.RowKit Go.Syn Go.Eng
set_option linter.unusedVariables false
set_option linter.unusedSimpArgs false
set_option maxRecDepth 100000
theorem Dj.snoc {a a' : Option Addr} {c c' : Nat} {ds : List SE} {e : SE} (h : Dj a c ds) (h1 : ∀ k, (kRow e).F k → ¬ (ksR ds).F k) (h2 : ∀ k, c' ≠ 0 → abk a' = some k → ¬ (ksR (ds ++ [e])).F k) : Dj a' c' (ds ++ [e]) := by
  have at_ : ∀ {j : Nat} {x : SE}, (ds ++ [e])[j]? = some x → ds[j]? = some x ∨ (j = ds.length ∧ x = e) := fun {j x} hx => by
    rw [List.getElem?_append] at hx
    split at hx
    · exact .inl hx
    · have h0 : j - ds.length < 1 := by
        rcases Nat.lt_or_ge (j - ds.length) 1 with z | z
        · exact z
        · rw [List.getElem?_eq_none (by simpa using z)] at hx; cases hx
      exact .inr ⟨by omega, List.mem_singleton.1 (List.mem_of_getElem? hx)⟩
  refine ⟨fun i j x y hij hx hy k hk1 hk2 => ?_, fun x hx k hk hF => h2 k hF.1 hF.2 ⟨x, hx, hk⟩⟩
  rcases at_ hx with hx2 | ⟨e1, e2⟩
  · rcases at_ hy with hy2 | ⟨e3, e4⟩
    · exact h.two i j x y hij hx2 hy2 k hk1 hk2
    · exact h1 k (e4 ▸ hk2) ⟨x, List.mem_of_getElem? hx2, hk1⟩
  · rcases at_ hy with hy2 | ⟨e3, e4⟩
    · exact h1 k (e2 ▸ hk1) ⟨y, List.mem_of_getElem? hy2, hk2⟩
    · exact hij (e1.trans e3.symm)
def CpI (W : World) (es : List SE) (vs : Vals) (hx : HX) : Prop := ∃ (k : Nat) (a1 : Option Addr) (c1 : Nat) (ds : List SE), k ≤ es.length ∧ ds.map SE.s = (es.take k).map SE.s ∧ ds.length = k ∧ Dj a1 c1 ds ∧ (∀ q, (tabR a1 c1 ds).F q → W.heap.size ≤ q) ∧ vs = ⟨[(k : Int)], [], [], [ds.length, c1], [a1]⟩ ∧ hx = tabR a1 c1 ds
set_option maxHeartbeats 2000000 in
theorem rcopy_any (a : Option Addr) (cap : Nat) (es : List SE) (w : World) (H : TbAt w a es) (hl : es.length * 40 ≤ 140737488351232) (hk : ∀ e ∈ es, e.s.kept.length * 32 ≤ 140737488351232) : Calls Try.prog 11 #[.slice a es.length cap] w (TbNew w id (es.map SE.s)) := by
  refine calls_at (tab_ok _) Try.func11 rfl tRCopy (ρ := ⟨[], [], [], [es.length, cap], [a]⟩) (ids := []) (hx := HX.nil) rfl (Facts.initP rfl oneNil) ?_
  have keep : ∀ {m : Mem} {ρ : Env} {ids : List Nat} {hx : HX} {w2 : World} {R : Ending → World → Prop}, Facts ⟨Try.prog, w, fun _ => False, R⟩ m ρ ids hx w2 → TbAt w2 a es := fun hf => H.keep (fun k hk => hf.chg.block k hk (fun q => q))
  refine loop_i (CpI w es) (fun vs => es.length - (vs.i.headD 0).toNat) (fun ids w2 hp hf => ⟨tabR (some ⟨idAt ids 0, 0, none⟩) 0 [], tab0 _ _ _, 0, _, 0, [], Nat.zero_le _, rfl, rfl, ⟨fun i j e e' _ h => by simp at h, fun e he => by cases he⟩, fun q hq => (((tab0 (some ⟨idAt ids 0, 0, none⟩) w2 ids).2 q hq).1 |> fun _ => by
    rcases hq with ⟨e, he, _⟩ | ⟨h, _⟩
    · simp at he
    · exact absurd rfl h), by kernel_rfl, rfl⟩) ?_
  rintro vs hx' hcnt ⟨k, a1, c1, ds, hk1, hdm, hdl, hdj, hnew, rfl, rfl⟩
  refine holds_env (ρ' := ⟨[(k : Int)], [], [], [es.length, cap, ds.length, c1], [a, a1]⟩) (by kernel_rfl) ?_
  by_cases hlt : k < es.length
  rotate_left
  · refine br_F (decide ((k : Int) < (es.length : Int))) (by kernel_rfl) (decide_eq_false (by omega)) ?_
    obtain rfl : k = es.length := by omega
    rw [List.take_length] at hdm
    intro ids w2 hp hf
    exact tb_fin hf hdm hdj hnew (by kernel_rfl)
  refine br_T (decide ((k : Int) < (es.length : Int))) (by kernel_rfl) (decide_eq_true (by omega)) ?_
  obtain ⟨e, he⟩ : ∃ e, es[k]? = some e := ⟨_, List.getElem?_eq_getElem hlt⟩
  have hem := List.mem_of_getElem? he
  have n1 : a.isSome = true ∧ (0 : Int) ≤ k ∧ (k : Int) < es.length := ⟨se_sm H.row he, by omega, by omega⟩
  refine need_k (a.isSome = true ∧ (0 : Int) ≤ k ∧ (k : Int) < es.length) (by kernel_rfl) n1 ?_
  refine node_ld0 (k := ⟨1, 0, 0, 4, 2⟩) ⟨[e.s.no, e.s.ack], [], [], [e.s.kept.length, e.c], [e.a]⟩ (.pointer (some (((a.getD ⟨0, 0, none⟩).add (k * 3)).add 0))) e.cells (by intros; kernel_rfl) (by intros; kernel_rfl) (se_all k he H.row) ⟨rfl, oneNil⟩ (by kernel_rfl) oneNil ?_
  refine need_k (a.isSome = true ∧ (0 : Int) ≤ k ∧ (k : Int) < es.length) (by kernel_rfl) n1 ?_
  refine node_ld0 (k := ⟨3, 0, 0, 6, 3⟩) ⟨[], [], [], [e.s.kept.length, e.c], [e.a]⟩ (.pointer (some (((a.getD ⟨0, 0, none⟩).add (k * 3)).add 2))) [.slice e.a e.s.kept.length e.c] (by intros; kernel_rfl) (by intros; kernel_rfl) (se_key k e he (n := 0) rfl H.row) ⟨rfl, oneNil⟩ (by kernel_rfl) oneNil ?_
  have hkl := hk e hem
  refine node_clones (sz := 4) (z := .agg #[.int .i64 0, .int .i64 0, .int .i64 0, .int .i64 0]) rfl Try.underlying40 info_kp rfl (by decide) 2 rfl (fun _ => e.a) e.s.kept.length e.c (kcells e.s.kept) (kcells_len _) (fun ids w2 hp hf => (keep hf).each e hem) (kp_one _) (by simp only [maxLen]; omega) (by omega) (by intros; kernel_rfl) (by intros; kernel_rfl) (by intros; kernel_rfl) (by kernel_rfl) (by kernel_rfl) (by intros; kernel_rfl) ?_
  intro a5 c5 hn5
  obtain ⟨e', ee'⟩ : ∃ e' : SE, e' = ⟨e.s, a5, c5⟩ := ⟨_, rfl⟩
  refine holds_eq (show _ = (ksR (ds ++ [e'])).and (HX.rw 3 42 a1 ds.length c1 (secells ds)) from by rw [ksR_snoc, HX.and_right_comm, ee']; rfl) ?_
  have hF5 : ∀ q, (kRow e').F q → w.heap.size ≤ q ∧ ¬ (tabR a1 c1 ds).F q := fun q hq => by rw [ee'] at hq; exact hn5 q hq.1 hq.2
  refine node_pushs (sz := 3) (z := .agg #[.int .i64 0, .int .i64 0, .slice none 0 0]) rfl Try.underlying24 info_se rfl (by decide) a1 ds.length c1 (secells ds) [.int .i64 e.s.no, .int .i64 e.s.ack, .slice a5 e.s.kept.length c5] 3 (by intros; kernel_rfl) (by intros; kernel_rfl) rfl (by intros; kernel_rfl) rfl (fun v hv => by simp at hv; rcases hv with rfl | rfl | rfl <;> rfl) (fun q h1 h2 hF => ?_) (fun q h1 h2 => .inl (hnew q (.inr ⟨h1, h2⟩))) (by simp only [maxLen]; omega) (by omega) (by intros; kernel_rfl) (by kernel_rfl) (by kernel_rfl) (by intros; kernel_rfl) ?_
  · obtain ⟨x, hx, hq⟩ := hF
    rcases List.mem_append.1 hx with hx | hx
    · exact hdj.tab x hx q hq ⟨h1, h2⟩
    · rw [List.mem_singleton.1 hx] at hq; exact (hF5 q hq).2 (.inr ⟨h1, h2⟩)
  intro a6 c6 hc6 hdis6 hwh6
  have hwk : IntKind.i64.wrap ((k : Int) + 1) = ((k + 1 : Nat) : Int) := by rw [wrap_i64 (by omega)]; omega
  have hsl : (ds ++ [e']).length = ds.length + 1 := by rw [List.length_append]; rfl
  have hsc : secells ds ++ [Value.int .i64 e.s.no, .int .i64 e.s.ack, .slice a5 e.s.kept.length c5] = secells (ds ++ [e']) := by
    unfold secells; rw [List.flatMap_append, List.flatMap_cons, List.flatMap_nil, List.append_nil, ee']; rfl
  refine holds_eq (show _ = tabR a6 c6 (ds ++ [e']) from by unfold tabR tRow; rw [hsl, hsc]) ?_
  have hge6 : ∀ q, abk a6 = some q → w.heap.size ≤ q := fun q hq => by
    rcases hwh6 with ⟨z1, z2⟩ | ⟨g, z1, z2, _⟩
    · exact hnew q (.inr ⟨z1, by rw [← z2]; exact hq⟩)
    · rw [z1] at hq; cases hq; exact z2
  refine again_V ⟨[((k + 1 : Nat) : Int)], [], [], [(ds ++ [e']).length, c6], [a6]⟩ rfl (fun ids => Eq.trans (b := ⟨[IntKind.i64.wrap ((k : Int) + 1)], [], [], [ds.length + 1, c6], [a6]⟩) (by kernel_rfl) (by rw [hwk, hsl])) _ (fun w2 ids hf => ⟨hf.x, hf.sep⟩) ⟨⟨k + 1, a6, c6, ds ++ [e'], by omega, ?_, by rw [hsl, hdl], hdj.snoc (fun q hq hF => (hF5 q hq).2 (.inl hF)) (fun q _ h2 => hdis6 q h2), ?_, rfl, rfl⟩, ?_⟩
  · rw [List.map_append, hdm, List.take_add_one, he, List.map_append, ee']; rfl
  · rintro q (⟨x, hx, hq⟩ | hq)
    · rcases List.mem_append.1 hx with hx | hx
      · exact hnew q (.inl ⟨x, hx, hq⟩)
      · rw [List.mem_singleton.1 hx] at hq; exact (hF5 q hq).1
    · exact hge6 q hq.2
  · show es.length - (((k + 1 : Nat) : Int)).toNat < es.length - ((k : Int)).toNat
    omega
/-- What Find answers. -/
def findS (t : List SsD) (no : Int) : SsD := if hitI (nosT t) no then (t[posI (nosT t) no]?).getD ⟨0, 0, []⟩ else ⟨0, 0, []⟩
theorem tfind_any (a : Option Addr) (cap : Nat) (es : List SE) (no : Int) (w : World) (H : TbAt w a es) (hok : TOk (es.map SE.s)) :
    Calls Try.prog 14 #[.slice a es.length cap, .int .i64 no] w (RwNew w (fun v => .tuple #[.agg #[.int .i64 (findS (es.map SE.s) no).no, .int .i64 (findS (es.map SE.s) no).ack, v], .bool (hitI (nosT (es.map SE.s)) no)]) 4 48 (findS (es.map SE.s) no).kept.length (kcells (findS (es.map SE.s) no).kept)) := by
  rcases Bool.eq_false_or_eq_true (hitI (nosT (es.map SE.s)) no) with hh | hh
  · obtain ⟨s, hs, _, h1, _⟩ := tabS_at (es.map SE.s) no
    have h2 := h1 hh
    have hf : findS (es.map SE.s) no = s := by unfold findS; rw [if_pos hh, h2]; rfl
    rw [hf, hh]
    exact tfind_yes a cap es no w H hok hh h2
  · have hf : findS (es.map SE.s) no = ⟨0, 0, []⟩ := by unfold findS; rw [if_neg (by rw [hh]; decide)]
    rw [hf, hh]
    refine (tfind_no a cap es no w H hok hh).mono ?_
    rintro r w' ⟨rfl, hb⟩
    exact ⟨none, 0, rfl, HX.rw_nil _ _ _ _, fun k h => absurd rfl h, hb⟩
end Go.Proofs.Ythgkgllllomeeaa
