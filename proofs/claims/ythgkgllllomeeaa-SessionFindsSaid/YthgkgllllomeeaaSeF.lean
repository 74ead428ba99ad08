/- Sessions: Keep, Find, Valid. -/
import Derived.Test.YthgkgllllomeeaaSeE
namespace Go.Proofs.Ythgkgllllomeeaa
open Go.ChangeShapes Go.WideShapes Go.ChangeAt Go.RowKit Go.Syn Go.Eng
set_option linter.unusedVariables false
set_option linter.unusedSimpArgs false
set_option maxRecDepth 100000
theorem HX.nil_and (a : HX) : HX.nil.and a = a := HX.ext (by funext k; exact propext ⟨fun h => h.elim (fun q => q.elim) id, .inr⟩) (by funext w; exact propext ⟨And.right, fun h => ⟨trivial, h⟩⟩)
theorem tb_sep {a : Option Addr} {c : Nat} {es : List SE} {i : Nat} {e : SE} (he : es[i]? = some e) (hdj : Dj a c es) {a' : Option Addr} {c' : Nat} {w : World} (hnew : ∀ k, (tabR a c es).F k → w.heap.size ≤ k) {s : SsD}
    (h1 : ∀ k, c' ≠ 0 → abk a' = some k → ¬ ((ksR (es.eraseIdx i)).and (tRow a c es)).F k) (h2 : ∀ k, c' ≠ 0 → abk a' = some k → w.heap.size ≤ k) : Dj a c (es.set i ⟨s, a', c'⟩) ∧ ∀ k, (tabR a c (es.set i ⟨s, a', c'⟩)).F k → w.heap.size ≤ k := by
  refine ⟨hdj.set he (fun k hk => ⟨fun q => h1 k hk.1 hk.2 (.inl q), fun q => h1 k hk.1 hk.2 (.inr q)⟩), ?_⟩
  rintro k (hk | hk)
  · rw [ksR_set he] at hk
    rcases hk with hk | hk
    · exact hnew k (.inl (by rw [ksR_split he]; exact .inl hk))
    · exact h2 k hk.1 hk.2
  · exact hnew k (.inr hk)
set_option maxHeartbeats 4000000 in
theorem tkeep_any (a : Option Addr) (cap : Nat) (es : List SE) (sess seq ack o1 o2 o3 o4 o5 k re im : Int) (w : World) (H : TbAt w a es) (hok : TOk (es.map SE.s)) :
    Calls Try.prog 9 #[.slice a es.length cap, cmdC sess seq ack o1 o2 o3 o4 o5, .agg #[.int .i64 k, .int .i64 re, .int .i64 im]] w (TbNew w id (keepV (es.map SE.s) sess seq k re im)) := by
  refine calls_at (tab_ok _) Try.func9 rfl tTKeep (ρ := ⟨[sess, seq, ack, o1, o2, o3, o4, o5, k, re, im], [], [], [es.length, cap], [a]⟩) (ids := []) (hx := HX.nil) rfl (Facts.initP rfl oneNil) ?_
  obtain ⟨t, et⟩ : ∃ t, t = es.map SE.s := ⟨_, rfl⟩
  rw [← et] at hok ⊢
  obtain ⟨R, eR⟩ : ∃ R, R = keepV t sess seq k re im := ⟨_, rfl⟩
  rw [← eR]
  have htl : t.length = es.length := by rw [et, List.length_map]
  have hkk : ∀ e ∈ es, e.s.kept.length ≤ 1000000 := fun e he => Nat.le_trans (hok.kept e.s (by rw [et]; exact List.mem_map_of_mem he)) (by decide)
  refine node_tb (V := id) (tb := t) (fun _ => #[.slice a es.length cap]) (fun a' c' => ⟨[], [], [], [t.length, c'], [a']⟩) (by intros; kernel_rfl) (fun ids w2 hp hf => by
    rw [et]; exact tclone_any a cap es w2 (H.keep (fun k hk => hf.chg.block k hk (fun q => q))) (by have := hok.len; omega) hkk) (by intros; kernel_rfl) (by kernel_rfl) (by kernel_rfl) (by intros; kernel_rfl) (fun _ _ => oneNil) ?_
  intro a2 c2 es2 hm2 hdj2 hsm2 hnew2
  have hl1 : es2.length = t.length := by rw [← hm2, List.length_map]
  have hn1 : (es2.map fun e => e.s.no) = nosT t := by rw [← hm2]; unfold nosT; rw [List.map_map]; rfl
  have hlen := hok.len
  obtain ⟨i, ei⟩ : ∃ i, i = posI (nosT t) sess := ⟨_, rfl⟩
  refine holds_env (ρ' := ⟨[sess, seq, ack, o1, o2, o3, o4, o5, k, re, im], [], [], [es.length, cap, es2.length, c2], [a, a2]⟩) (by rw [hl1]; kernel_rfl) ?_
  refine holds_eq (HX.nil_and _) ?_
  have hnew3 : ∀ k, (tabR a2 c2 es2).F k → w.heap.size ≤ k := fun k hk => (hnew2 k hk).1
  refine node_P ⟨[(i : Int)], [hitI (nosT t) sess], [], [], []⟩ #[.slice a2 es2.length c2, .int .i64 sess, .func (.func 20) #[] #[]] (.tuple #[.int .i64 (i : Int), .bool (hitI (nosT t) sess)]) (by intros; kernel_rfl) (by intros; kernel_rfl) (by intros; kernel_rfl) (by intros; kernel_rfl) (by intros; kernel_rfl) oneNil (fun ids w2 hp hf => by
    have := bst_any a2 c2 es2 sess w2 (rw_cells hf.x.2) (by rw [hn1]; exact hok.nos) (by omega)
    rw [hn1, ← ei] at this; exact this) ?_
  have stay : R = t → ∀ {m : Mem} {ρ : Env} {v : SV} {pre : List Nat} {L : Stack}, (∀ ids, v.den ρ ids = .slice a2 es2.length c2) → (Tree.done v m).holds ⟨Try.prog, w, fun _ => False, TbNew w id R⟩ ρ pre (tabR a2 c2 es2) L := fun hR {m ρ v pre L} hv ids w2 hp hf => by
    rw [hR] at hf ⊢
    exact tb_fin hf hm2 hdj2 hnew3 (hv ids)
  rcases Bool.eq_false_or_eq_true (hitI (nosT t) sess) with hh | hh
  rotate_left
  · refine br_T (!(hitI (nosT t) sess)) (by kernel_rfl) (by rw [hh]; rfl) ?_
    exact stay (by rw [eR]; unfold keepV; rw [if_pos hh]) (by intros; kernel_rfl)
  refine br_F (!(hitI (nosT t) sess)) (by kernel_rfl) (by rw [hh]; rfl) ?_
  obtain ⟨s, hs, hsno, hs1, _⟩ := tabS_at t sess
  rw [← ei] at hs1
  have hts := hs1 hh
  obtain ⟨e, he, hes⟩ : ∃ e, es2[i]? = some e ∧ e.s = s := by
    have h1 : (es2.map SE.s)[i]? = some s := by rw [hm2]; exact hts
    rw [List.getElem?_map] at h1
    cases h4 : es2[i]? with
    | none => rw [h4] at h1; cases h1
    | some x => rw [h4] at h1; simp only [Option.map_some, Option.some.injEq] at h1; exact ⟨x, rfl, h1⟩
  have hem := List.mem_of_getElem? he
  have hi2 : i < es2.length := (List.getElem?_eq_some_iff.1 he).1
  have hwe : es2 ≠ [] := fun q => by rw [q] at hi2; simp at hi2
  have hsok : e.s.kept.length ≤ 1000 ∧ Rise (seqsK e.s.kept) := by
    rw [hes]
    have := List.mem_of_getElem? hts
    exact ⟨hok.kept s this, hok.seqs s this⟩
  obtain ⟨l, el⟩ : ∃ l, l = e.s.kept := ⟨_, rfl⟩
  rw [← el] at hsok
  obtain ⟨j, ej⟩ : ∃ j, j = posI (seqsK l) seq := ⟨_, rfl⟩
  have hR : R = if hitI (seqsK l) seq = true ∨ seq ≤ e.s.ack ∨ 8 ≤ l.length then t else t.set i ⟨e.s.no, e.s.ack, insAt l j ⟨seq, k, re, im⟩⟩ := by
    rw [eR]; unfold keepV
    rw [if_neg (by rw [hh]; decide), ← ei, hts]
    dsimp only
    rw [← hes, ← el, ← ej]
  have hi0 : (0 : Int) ≤ (i : Int) ∧ (i : Int) < (es2.length : Int) := by omega
  refine need_k (a2.isSome = true ∧ (0 : Int) ≤ i ∧ (i : Int) < es2.length) (by kernel_rfl) ⟨hsm2.tab hwe, hi0⟩ ?_
  have ldk2 : ∀ {m m' : Mem} {t : Tree} {L : Stack} {pre : List Nat} {R : Ending → World → Prop} {ρ : Env} {l2 : LV} {cs : List LV}, (∀ ids, l2.den ρ ids = .pointer (some (((a2.getD ⟨0, 0, none⟩).add (i * 3)).add 2))) → (∀ ids, cellsDen (ρ.add ⟨[], [], [], [l.length, e.c], [e.a]⟩) ids cs = [.slice e.a l.length e.c]) → (ρ.add ⟨[], [], [], [l.length, e.c], [e.a]⟩).cnt = m'.c → t.holds ⟨Try.prog, w, fun _ => False, R⟩ (ρ.add ⟨[], [], [], [l.length, e.c], [e.a]⟩) pre (tabR a2 c2 es2) L → (Tree.ld true l2 cs m m' t).holds ⟨Try.prog, w, fun _ => False, R⟩ ρ pre (tabR a2 c2 es2) L := fun h1 h2 h3 h4 =>
    node_ldk ⟨[], [], [], [l.length, e.c], [e.a]⟩ (fun _ => .pointer (some (((a2.getD ⟨0, 0, none⟩).add (i * 3)).add 2))) [.slice e.a l.length e.c] h1 h2 (fun ids w2 hp hf => se_key i e he (n := 0) (by rw [el]; rfl) (rw_cells hf.x.2)) h3 oneNil h4
  refine ldk2 (by intros; kernel_rfl) (by intros; kernel_rfl) (by kernel_rfl) ?_
  have hq : (l.map fun e => e.seq) = seqsK l := rfl
  refine node_P ⟨[(j : Int)], [hitI (seqsK l) seq], [], [], []⟩ #[.slice e.a l.length e.c, .int .i64 seq, .func (.func 25) #[] #[]] (.tuple #[.int .i64 (j : Int), .bool (hitI (seqsK l) seq)]) (by intros; kernel_rfl) (by intros; kernel_rfl) (by intros; kernel_rfl) (by intros; kernel_rfl) (by intros; kernel_rfl) oneNil (fun ids w2 hp hf => by
    have hc := rw_cells (hf.x.1 e hem)
    rw [← el] at hc
    have := bsk_any e.a e.c l seq w2 hc hsok.2 (by omega)
    rw [hq, ← ej] at this; exact this) ?_
  rcases Bool.eq_false_or_eq_true (hitI (seqsK l) seq) with hh2 | hh2
  · refine br_T (hitI (seqsK l) seq) (by kernel_rfl) hh2 ?_
    exact stay (by rw [hR, if_pos (.inl hh2)]) (by intros; kernel_rfl)
  refine br_F (hitI (seqsK l) seq) (by kernel_rfl) hh2 ?_
  refine node_ldk ⟨[e.s.ack], [], [], [], []⟩ (fun _ => .pointer (some (((a2.getD ⟨0, 0, none⟩).add (i * 3)).add 1))) [.int .i64 e.s.ack] (by intros; kernel_rfl) (by intros; kernel_rfl) (fun ids w2 hp hf => se_key i e he (n := 0) rfl (rw_cells hf.x.2)) (by kernel_rfl) oneNil ?_
  by_cases hst : seq ≤ e.s.ack
  · refine br_T (decide (seq ≤ e.s.ack)) (by kernel_rfl) (decide_eq_true hst) ?_
    exact stay (by rw [hR, if_pos (.inr (.inl hst))]) (by intros; kernel_rfl)
  refine br_F (decide (seq ≤ e.s.ack)) (by kernel_rfl) (decide_eq_false hst) ?_
  refine ldk2 (by intros; kernel_rfl) (by intros; kernel_rfl) (by kernel_rfl) ?_
  by_cases h8 : 8 ≤ l.length
  · refine br_T (decide ((l.length : Int) ≥ 8)) (by kernel_rfl) (decide_eq_true (by omega)) ?_
    exact stay (by rw [hR, if_pos (.inr (.inr h8))]) (by intros; kernel_rfl)
  refine br_F (decide ((l.length : Int) ≥ 8)) (by kernel_rfl) (decide_eq_false (by omega)) ?_
  rw [if_neg (by rw [hh2]; rintro (q | q | q) <;> first | cases q | omega)] at hR
  have hjl : j ≤ l.length := by
    have := pos_le (seqsK l) seq
    rw [ej]; unfold seqsK at this ⊢
    rwa [List.length_map] at this
  refine ⟨?_, ?_⟩
  all_goals
    refine ldk2 (by intros; kernel_rfl) (by intros; kernel_rfl) (by kernel_rfl) ?_
    refine holds_eq (show _ = ((ksR (es2.eraseIdx i)).and (tRow a2 c2 es2)).and (HX.rw 4 48 e.a l.length e.c (kcells l)) from by unfold tabR; rw [ksR_split he, HX.and_right_comm, el]; rfl) ?_
    have hdE := hdj2.one he
    refine node_rwm (V := id) (n' := l.length + 1) (zs := (kcells l).take (j * 4) ++ [.int .i64 seq, .int .i64 k, .int .i64 re, .int .i64 im] ++ (kcells l).drop (j * 4)) (fun ids => #[.slice e.a l.length e.c, .int .i64 (j : Int), .slice (some ⟨idAt ids 2, 0, none⟩) 1 1]) (fun a' c' => ⟨[], [], [], [l.length + 1, c'], [a']⟩) (by intros; kernel_rfl) (fun ids w2 hp hf => ?_) (fun q h1 h2 hF => ?_) (fun q h1 h2 => .inl (hnew3 q (.inl ⟨e, hem, h1, h2⟩))) (by intros; kernel_rfl) (by kernel_rfl) (by kernel_rfl) (by intros; kernel_rfl) (fun _ _ => oneNil) ?_
    · have hlt2 : 2 < ids.length := by rw [hf.len]; decide
      exact insk_any e.a e.c l.length j (kcells l) seq k re im (idAt ids 2) w2 hf.x.2 (hf.blkAt 2 rfl) hjl (by omega) (kp_one l) (fun k h1 h2 q => (hf.sep k (.inr ⟨h1, h2⟩)).2 (q ▸ idAt_mem hlt2))
    · rcases hF with hF | hF
      · exact (hdE q ⟨h1, h2⟩).1 hF
      · exact (hdE q ⟨h1, h2⟩).2 hF
    intro a' c' hsm' hdis' hwh'
    obtain ⟨l2, el2⟩ : ∃ l2, l2 = insAt l j ⟨seq, k, re, im⟩ := ⟨_, rfl⟩
    have hl2 : l2.length = l.length + 1 := by rw [el2, insAt_len _ hjl]
    have hz : (kcells l).take (j * 4) ++ [Value.int .i64 seq, .int .i64 k, .int .i64 re, .int .i64 im] ++ (kcells l).drop (j * 4) = kcells l2 := by rw [el2]; exact (insAt_flat kp_len l j ⟨seq, k, re, im⟩).symm
    obtain ⟨e3, ee3⟩ : ∃ e3 : SE, e3 = ⟨⟨e.s.no, e.s.ack, l2⟩, a', c'⟩ := ⟨_, rfl⟩
    obtain ⟨hdj3, hnew4⟩ := tb_sep (s := ⟨e.s.no, e.s.ack, l2⟩) he hdj2 hnew3 hdis' (fun q h1 h2 => by
      rcases hwh' q h1 h2 with z | z
      · exact hnew3 q (.inl ⟨e, hem, z.1, z.2⟩)
      · exact z.1)
    rw [← ee3] at hdj3 hnew4
    refine holds_eq (show _ = ((ksR (es2.eraseIdx i)).and (kRow e3)).and (HX.rw 3 42 a2 es2.length c2 (secells es2)) from by rw [hz, HX.and_right_comm, ee3]; unfold kRow tRow; dsimp only; rw [hl2]) ?_
    refine node_stores (sz := 3) a2 es2.length c2 (secells es2) [.slice a' (l.length + 1) c'] i 2 (.slice a' (l.length + 1) c') (by kernel_rfl) (by intros; kernel_rfl) (by intros; kernel_rfl) rfl (by simp [Value.oneCell']) (by simp; omega) (by simp) (fun q h1 h2 hF => ?_) (fun q h1 h2 => .inl (hnew3 q (.inr ⟨h1, h2⟩))) (by kernel_rfl) (by kernel_rfl) (by kernel_rfl) ?_
    · rcases hF with hF | hF
      · exact hdj2.row q ⟨h1, h2⟩ (by rw [ksR_split he]; exact .inl hF)
      · rw [ee3] at hF; exact hdis' q hF.1 hF.2 (.inr ⟨h1, h2⟩)
    have hst3 : spl (secells es2) (i * 3 + 2) [.slice a' (l.length + 1) c'] = secells (es2.set i e3) := flat_spl se_len he (e' := e3) (o := 2) (us := [.slice a' (l.length + 1) c']) (by simp) (by rw [ee3, ← hl2]; rfl)
    rw [hst3]
    refine holds_eq (show _ = tabR a2 c2 (es2.set i e3) from by unfold tabR tRow; rw [ksR_set he, List.length_set]) ?_
    have hl3 : (es2.set i e3).length = es2.length := List.length_set ..
    rw [hR]
    intro ids w2 hp hf
    exact tb_fin hf (by rw [List.map_set, hm2, ee3, el2]) hdj3 hnew4 (by rw [hl3]; kernel_rfl)
theorem tfind_no (a : Option Addr) (cap : Nat) (es : List SE) (no : Int) (w : World) (H : TbAt w a es) (hok : TOk (es.map SE.s)) (hh : hitI (nosT (es.map SE.s)) no = false) :
    Calls Try.prog 14 #[.slice a es.length cap, .int .i64 no] w (PureAt w (.tuple #[.agg #[.int .i64 0, .int .i64 0, .slice none 0 0], .bool false])) := by
  refine calls_at (tab_ok _) Try.func14 rfl tTFind (ρ := ⟨[no], [], [], [es.length, cap], [a]⟩) (ids := []) (hx := HX.nil) rfl (Facts.initP rfl oneNil) ?_
  obtain ⟨t, et⟩ : ∃ t, t = es.map SE.s := ⟨_, rfl⟩
  rw [← et] at hok hh
  have htl : t.length = es.length := by rw [et, List.length_map]
  have hn1 : (es.map fun e => e.s.no) = nosT t := by rw [et]; unfold nosT; rw [List.map_map]; rfl
  have hlen := hok.len
  refine node_P ⟨[(posI (nosT t) no : Int)], [hitI (nosT t) no], [], [], []⟩ #[.slice a es.length cap, .int .i64 no, .func (.func 20) #[] #[]] (.tuple #[.int .i64 (posI (nosT t) no : Int), .bool (hitI (nosT t) no)]) (by intros; kernel_rfl) (by intros; kernel_rfl) (by intros; kernel_rfl) (by intros; kernel_rfl) (by intros; kernel_rfl) oneNil (fun ids w2 hp hf => by
    have := bst_any a cap es no w2 (H.keep (fun k hk => hf.chg.block k hk (fun q => q))).row (by rw [hn1]; exact hok.nos) (by omega)
    rw [hn1] at this; exact this) ?_
  refine br_T (!(hitI (nosT t) no)) (by kernel_rfl) (by rw [hh]; rfl) (pure_done (by intros; kernel_rfl))
theorem tfind_yes (a : Option Addr) (cap : Nat) (es : List SE) (no : Int) (w : World) (H : TbAt w a es) (hok : TOk (es.map SE.s)) {s : SsD} (hh : hitI (nosT (es.map SE.s)) no = true) (hs : (es.map SE.s)[posI (nosT (es.map SE.s)) no]? = some s) :
    Calls Try.prog 14 #[.slice a es.length cap, .int .i64 no] w (RwNew w (fun v => .tuple #[.agg #[.int .i64 s.no, .int .i64 s.ack, v], .bool true]) 4 48 s.kept.length (kcells s.kept)) := by
  refine calls_at (tab_ok _) Try.func14 rfl tTFind (ρ := ⟨[no], [], [], [es.length, cap], [a]⟩) (ids := []) (hx := HX.nil) rfl (Facts.initP rfl oneNil) ?_
  obtain ⟨t, et⟩ : ∃ t, t = es.map SE.s := ⟨_, rfl⟩
  rw [← et] at hok hh hs
  have htl : t.length = es.length := by rw [et, List.length_map]
  have hn1 : (es.map fun e => e.s.no) = nosT t := by rw [et]; unfold nosT; rw [List.map_map]; rfl
  have hlen := hok.len
  obtain ⟨i, ei⟩ : ∃ i, i = posI (nosT t) no := ⟨_, rfl⟩
  rw [← ei] at hs
  refine node_P ⟨[(i : Int)], [hitI (nosT t) no], [], [], []⟩ #[.slice a es.length cap, .int .i64 no, .func (.func 20) #[] #[]] (.tuple #[.int .i64 (i : Int), .bool (hitI (nosT t) no)]) (by intros; kernel_rfl) (by intros; kernel_rfl) (by intros; kernel_rfl) (by intros; kernel_rfl) (by intros; kernel_rfl) oneNil (fun ids w2 hp hf => by
    have := bst_any a cap es no w2 (H.keep (fun k hk => hf.chg.block k hk (fun q => q))).row (by rw [hn1]; exact hok.nos) (by omega)
    rw [hn1, ← ei] at this; exact this) ?_
  refine br_F (!(hitI (nosT t) no)) (by kernel_rfl) (by rw [hh]; rfl) ?_
  obtain ⟨e, he, hes⟩ : ∃ e, es[i]? = some e ∧ e.s = s := by
    have h1 : (es.map SE.s)[i]? = some s := by rw [← et]; exact hs
    rw [List.getElem?_map] at h1
    cases h4 : es[i]? with
    | none => rw [h4] at h1; cases h1
    | some x => rw [h4] at h1; simp only [Option.map_some, Option.some.injEq] at h1; exact ⟨x, rfl, h1⟩
  have hem := List.mem_of_getElem? he
  have hi2 : i < es.length := (List.getElem?_eq_some_iff.1 he).1
  obtain ⟨s1, q1⟩ := flat_part se_len H.row he (o := 0) e.cells (fun j u hj => by rw [Nat.zero_add]; exact hj) (by simp [SE.cells])
  refine need_k (a.isSome = true ∧ (0 : Int) ≤ i ∧ (i : Int) < es.length) (by kernel_rfl) ⟨s1, by omega, by omega⟩ ?_
  refine node_ld0 (k := ⟨2, 1, 0, 2, 1⟩) ⟨[e.s.no, e.s.ack], [], [], [e.s.kept.length, e.c], [e.a]⟩ (.pointer (some (((a.getD ⟨0, 0, none⟩).add (i * 3)).add 0))) e.cells (by intros; kernel_rfl) (by intros; kernel_rfl) (q1 _ (fun q => q)) ⟨rfl, oneNil⟩ (by kernel_rfl) oneNil ?_
  refine node_rwn (V := id) (sz := 4) (e := 48) (n := e.s.kept.length) (xs := kcells e.s.kept) (fun _ => #[.slice e.a e.s.kept.length e.c]) (fun a' c' => ⟨[], [], [], [e.s.kept.length, c'], [a']⟩) (by intros; kernel_rfl) (fun ids w2 hp hf => clk_any e.a e.c e.s.kept w2 ((H.keep (fun k hk => hf.chg.block k hk (fun q => q))).each e hem) (by rw [hes]; have := hok.kept s (List.mem_of_getElem? hs); omega)) (by intros; kernel_rfl) (by kernel_rfl) (by kernel_rfl) (by intros; kernel_rfl) (fun _ _ => oneNil) ?_
  intro a2 c2 _ hn2 ids w2 hp hf
  rw [← hes]
  exact ⟨a2, c2, by kernel_rfl, hf.x.2, fun k h1 h2 => (hn2 k h1 h2).1, hf.chg.below⟩
def validK (seq : Int) : List KpD → Bool
  | [] => true
  | k :: r => decide (seq < k.seq ∧ k.seq ≤ 1099511627776 ∧ 1 ≤ k.kind ∧ k.kind ≤ 3) && validK k.seq r
def validS (last : Int) : List SsD → Bool
  | [] => true
  | s :: r => decide (last < s.no ∧ s.no ≤ 1073741824 ∧ 0 ≤ s.ack ∧ s.ack ≤ 1099511627776 ∧ s.kept.length ≤ 8) && validK s.ack s.kept && validS s.no r
def validT (t : List SsD) : Bool := validS 0 t && decide (t.length ≤ 16)
def VaI (t : List SsD) (vs : Vals) (hx : HX) : Prop := ∃ (k : Nat) (last : Int), k ≤ t.length ∧ validS last (t.drop k) = validS 0 t ∧ vs = ⟨[(k : Int), last], [], [], [], []⟩ ∧ hx = HX.nil
def VbI (l : List KpD) (ack : Int) (vs : Vals) (hx : HX) : Prop := ∃ (j : Nat) (seq : Int), j ≤ l.length ∧ validK seq (l.drop j) = validK ack l ∧ vs = ⟨[(j : Int), seq], [], [], [], []⟩ ∧ hx = HX.nil
set_option maxHeartbeats 2000000 in
theorem tvalid_any (a : Option Addr) (cap : Nat) (es : List SE) (w : World) (H : TbAt w a es) (hl : es.length ≤ 4611686018427387904) : Calls Try.prog 10 #[.slice a es.length cap] w (PureAt w (.bool (validT (es.map SE.s)))) := by
  refine calls_at (tab_ok _) Try.func10 rfl tTValid (ρ := ⟨[], [], [], [es.length, cap], [a]⟩) (ids := []) (hx := HX.nil) rfl (Facts.initP rfl oneNil) ?_
  obtain ⟨t, et⟩ : ∃ t, t = es.map SE.s := ⟨_, rfl⟩
  rw [← et]
  have htl : t.length = es.length := by rw [et, List.length_map]
  refine loop_i (VaI t) (fun vs => t.length - (vs.i.headD 0).toNat) (fun ids w2 hp hf => ⟨HX.nil, HXok.none _ _, 0, 0, Nat.zero_le _, rfl, rfl, rfl⟩) ?_
  rintro vs hx' hcnt ⟨k, last, hk, hv, rfl, rfl⟩
  by_cases hlt : k < es.length
  rotate_left
  · refine br_F (decide ((k : Int) < (es.length : Int))) (by kernel_rfl) (decide_eq_false (by omega)) (pure_done fun ids => ?_)
    obtain rfl : k = t.length := by omega
    rw [List.drop_length] at hv
    refine Eq.trans (b := .bool (decide ((es.length : Int) ≤ 16))) (by kernel_rfl) ?_
    unfold validT
    rw [← hv]
    show _ = Value.bool (true && _)
    rw [Bool.true_and]
    congr 1
    rw [decide_eq_decide]; omega
  refine br_T (decide ((k : Int) < (es.length : Int))) (by kernel_rfl) (decide_eq_true (by omega)) ?_
  obtain ⟨e, he⟩ : ∃ e, es[k]? = some e := ⟨_, List.getElem?_eq_getElem hlt⟩
  have hem := List.mem_of_getElem? he
  have hts : t[k]? = some e.s := by rw [et, List.getElem?_map, he]; rfl
  have hdr : t.drop k = e.s :: t.drop (k + 1) := by
    obtain ⟨h1, h2⟩ := List.getElem?_eq_some_iff.1 hts
    rw [List.drop_eq_getElem_cons h1, h2]
  rw [hdr] at hv
  have hbad : (last < e.s.no ∧ e.s.no ≤ 1073741824 ∧ 0 ≤ e.s.ack ∧ e.s.ack ≤ 1099511627776 ∧ e.s.kept.length ≤ 8 → validK e.s.ack e.s.kept = false) → validT t = false := fun h => by
    unfold validT
    rw [← hv]
    unfold validS
    by_cases hc : last < e.s.no ∧ e.s.no ≤ 1073741824 ∧ 0 ≤ e.s.ack ∧ e.s.ack ≤ 1099511627776 ∧ e.s.kept.length ≤ 8
    · rw [h hc, Bool.and_false, Bool.false_and, Bool.false_and]
    · rw [decide_eq_false hc, Bool.false_and, Bool.false_and, Bool.false_and]
  have fin : validT t = false → ∀ {m : Mem} {ρ : Env} {pre : List Nat} {L : Stack}, (Tree.done (.lf (.bool (.lit false))) m).holds ⟨Try.prog, w, fun _ => False, PureAt w (.bool (validT t))⟩ ρ pre HX.nil L := fun h {m ρ pre L} => by
    rw [h]; exact pure_done (fun ids => rfl)
  obtain ⟨s1, q1⟩ := flat_part se_len H.row he (o := 0) e.cells (fun j u hj => by rw [Nat.zero_add]; exact hj) (by simp [SE.cells])
  refine need_k (a.isSome = true ∧ (0 : Int) ≤ k ∧ (k : Int) < es.length) (by kernel_rfl) ⟨s1, by omega, by omega⟩ ?_
  refine node_ld0 (k := ⟨2, 0, 0, 2, 1⟩) ⟨[e.s.no, e.s.ack], [], [], [e.s.kept.length, e.c], [e.a]⟩ (.pointer (some (((a.getD ⟨0, 0, none⟩).add (k * 3)).add 0))) e.cells (by intros; kernel_rfl) (by intros; kernel_rfl) (q1 _ (fun q => q)) ⟨rfl, oneNil⟩ (by kernel_rfl) oneNil ?_
  by_cases h1 : e.s.no ≤ last
  · exact br_T (decide (e.s.no ≤ last)) (by kernel_rfl) (decide_eq_true h1) (fin (hbad (fun q => by omega)))
  refine br_F (decide (e.s.no ≤ last)) (by kernel_rfl) (decide_eq_false h1) ?_
  by_cases h2 : e.s.no > 1073741824
  · exact br_T (decide (e.s.no > 1073741824)) (by kernel_rfl) (decide_eq_true h2) (fin (hbad (fun q => by omega)))
  refine br_F (decide (e.s.no > 1073741824)) (by kernel_rfl) (decide_eq_false h2) ?_
  by_cases h3 : e.s.ack < 0
  · exact br_T (decide (e.s.ack < 0)) (by kernel_rfl) (decide_eq_true h3) (fin (hbad (fun q => by omega)))
  refine br_F (decide (e.s.ack < 0)) (by kernel_rfl) (decide_eq_false h3) ?_
  by_cases h4 : e.s.ack > 1099511627776
  · exact br_T (decide (e.s.ack > 1099511627776)) (by kernel_rfl) (decide_eq_true h4) (fin (hbad (fun q => by omega)))
  refine br_F (decide (e.s.ack > 1099511627776)) (by kernel_rfl) (decide_eq_false h4) ?_
  by_cases h5 : e.s.kept.length > 8
  · exact br_T (decide ((e.s.kept.length : Int) > 8)) (by kernel_rfl) (decide_eq_true (by omega)) (fin (hbad (fun q => by omega)))
  refine br_F (decide ((e.s.kept.length : Int) > 8)) (by kernel_rfl) (decide_eq_false (by omega)) ?_
  obtain ⟨l, el⟩ : ∃ l, l = e.s.kept := ⟨_, rfl⟩
  rw [← el] at hbad h5
  refine loop_i (VbI l e.s.ack) (fun vs => l.length - (vs.i.headD 0).toNat) (fun ids w2 hp hf => ⟨HX.nil, HXok.none _ _, 0, e.s.ack, Nat.zero_le _, rfl, by kernel_rfl, rfl⟩) ?_
  rintro vs hx' hcnt2 ⟨j, seq, hj, hv2, rfl, rfl⟩
  refine holds_env (ρ' := ⟨[(k : Int), last, e.s.no, e.s.ack, (j : Int), seq], [], [], [es.length, cap, l.length, e.c], [a, e.a]⟩) (by rw [el]; kernel_rfl) ?_
  by_cases hlt2 : j < l.length
  rotate_left
  · refine br_F (decide ((j : Int) < (l.length : Int))) (by kernel_rfl) (decide_eq_false (by omega)) ?_
    obtain rfl : j = l.length := by omega
    rw [List.drop_length] at hv2
    have hwk : IntKind.i64.wrap ((k : Int) + 1) = ((k + 1 : Nat) : Int) := by rw [wrap_i64 (by omega)]; omega
    refine again_V ⟨[((k + 1 : Nat) : Int), e.s.no], [], [], [], []⟩ rfl (fun ids => Eq.trans (b := ⟨[IntKind.i64.wrap ((k : Int) + 1), e.s.no], [], [], [], []⟩) (by kernel_rfl) (by rw [hwk])) HX.nil (fun w2 ids hf => HXok.none _ _) ⟨⟨k + 1, e.s.no, by omega, ?_, rfl, rfl⟩, ?_⟩
    · rw [← hv]
      show _ = (decide _ && validK e.s.ack e.s.kept && validS e.s.no (t.drop (k + 1)))
      rw [← el, ← hv2, decide_eq_true (by omega)]
      show _ = (true && true && _)
      rw [Bool.true_and, Bool.true_and]
    · show t.length - (((k + 1 : Nat) : Int)).toNat < t.length - ((k : Int)).toNat
      omega
  refine br_T (decide ((j : Int) < (l.length : Int))) (by kernel_rfl) (decide_eq_true (by omega)) ?_
  obtain ⟨p, hp⟩ : ∃ p, l[j]? = some p := ⟨_, List.getElem?_eq_getElem hlt2⟩
  have hdr2 : l.drop j = p :: l.drop (j + 1) := by
    obtain ⟨h1, h2⟩ := List.getElem?_eq_some_iff.1 hp
    rw [List.drop_eq_getElem_cons h1, h2]
  rw [hdr2] at hv2
  have hHl : Cells w e.a (kcells l) := by rw [el]; exact H.each e hem
  obtain ⟨s2, q2⟩ := flat_part kp_len hHl hp (o := 0) p.cells (fun j u hj => by rw [Nat.zero_add]; exact hj) (by simp [KpD.cells])
  have hbad2 : ¬ (seq < p.seq ∧ p.seq ≤ 1099511627776 ∧ 1 ≤ p.kind ∧ p.kind ≤ 3) → validT t = false := fun h => hbad fun _ => by
    rw [← hv2]
    unfold validK
    rw [decide_eq_false h, Bool.false_and]
  refine need_k (e.a.isSome = true ∧ (0 : Int) ≤ j ∧ (j : Int) < l.length) (by kernel_rfl) ⟨s2, by omega, by omega⟩ ?_
  refine node_ld0 (k := ⟨6, 0, 0, 4, 2⟩) ⟨[p.seq, p.kind, p.re, p.im], [], [], [], []⟩ (.pointer (some (((e.a.getD ⟨0, 0, none⟩).add (j * 4)).add 0))) p.cells (by intros; kernel_rfl) (by intros; kernel_rfl) (q2 _ (fun q => q)) ⟨rfl, oneNil⟩ (by kernel_rfl) oneNil ?_
  by_cases g1 : p.seq ≤ seq
  · exact br_T (decide (p.seq ≤ seq)) (by kernel_rfl) (decide_eq_true g1) (fin (hbad2 (fun q => by omega)))
  refine br_F (decide (p.seq ≤ seq)) (by kernel_rfl) (decide_eq_false g1) ?_
  by_cases g2 : p.seq > 1099511627776
  · exact br_T (decide (p.seq > 1099511627776)) (by kernel_rfl) (decide_eq_true g2) (fin (hbad2 (fun q => by omega)))
  refine br_F (decide (p.seq > 1099511627776)) (by kernel_rfl) (decide_eq_false g2) ?_
  by_cases g3 : p.kind < 1
  · exact br_T (decide (p.kind < 1)) (by kernel_rfl) (decide_eq_true g3) (fin (hbad2 (fun q => by omega)))
  refine br_F (decide (p.kind < 1)) (by kernel_rfl) (decide_eq_false g3) ?_
  by_cases g4 : p.kind > 3
  · exact br_T (decide (p.kind > 3)) (by kernel_rfl) (decide_eq_true g4) (fin (hbad2 (fun q => by omega)))
  refine br_F (decide (p.kind > 3)) (by kernel_rfl) (decide_eq_false g4) ?_
  have hwj : IntKind.i64.wrap ((j : Int) + 1) = ((j + 1 : Nat) : Int) := by rw [wrap_i64 (by omega)]; omega
  refine again_V ⟨[((j + 1 : Nat) : Int), p.seq], [], [], [], []⟩ rfl (fun ids => Eq.trans (b := ⟨[IntKind.i64.wrap ((j : Int) + 1), p.seq], [], [], [], []⟩) (by kernel_rfl) (by rw [hwj])) HX.nil (fun w2 ids hf => HXok.none _ _) ⟨⟨j + 1, p.seq, by omega, ?_, rfl, rfl⟩, ?_⟩
  · rw [← hv2]
    show _ = (decide _ && validK p.seq (l.drop (j + 1)))
    rw [decide_eq_true (by omega), Bool.true_and]
  · show l.length - (((j + 1 : Nat) : Int)).toNat < l.length - ((j : Int)).toNat
    omega
end Go.Proofs.Ythgkgllllomeeaa
