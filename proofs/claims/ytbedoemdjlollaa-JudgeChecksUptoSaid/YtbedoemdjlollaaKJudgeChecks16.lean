/- Part 16 of the texts of a proof about the given program: what the statement's proof needs of them. -/
import Derived.Test.YtbedoemdjlollaaKJudgeChecks15
namespace Go.Proofs.Ytbedoemdjlollaa
open Go.ChangeShapes Go.WideShapes Go.ChangeAt Go.RowKit Go.Syn Go.Eng
set_option linter.unusedVariables false
set_option linter.unusedSimpArgs false
set_option maxRecDepth 100000
theorem HX.nil_and (a : HX) : HX.nil.and a = a := HX.ext (by funext k; exact propext ⟨fun h => h.elim (fun q => q.elim) id, .inr⟩) (by funext w; exact propext ⟨And.right, fun h => ⟨trivial, h⟩⟩)
theorem tb_sep {a : Option Addr} {c : Nat} {es : List SE} {i : Nat} {e : SE} (he : es[i]? = some e) (hdj : Dj a c es) {a' : Option Addr} {c' : Nat} {w : World} (hnew : ∀ k, (tabR a c es).F k → w.heap.size ≤ k) {s : SsD}
    (h1 : ∀ k, c' ≠ 0 → abk a' = some k → ¬ ((ksR (es.eraseIdx i)).and (tRow a c es)).F k) (h2 : ∀ k, c' ≠ 0 → abk a' = some k → w.heap.size ≤ k) : Dj a c (es.set i ⟨s, a', c'⟩) ∧ ∀ k, (tabR a c (es.set i ⟨s, a', c'⟩)).F k → w.heap.size ≤ k := by
  refine ⟨hdj.set he (fun k hk => ⟨fun q => h1 k hk.1 hk.2 (.inl q), fun q => h1 k hk.1 hk.2 (.inr q)⟩), ?_⟩
  rintro k (hk | hk)
  · rw [ksR_set he] at hk
    rcases hk with hk | hk
    · exact hnew k (.inl (by rw [ksR_split he]; exact .inl hk))
    · exact h2 k hk.1 hk.2
  · exact hnew k (.inr hk)
set_option maxHeartbeats 4000000 in
theorem tkeep_any (a : Option Addr) (cap : Nat) (es : List SE) (sess seq ack o1 o2 o3 o4 o5 k re im : Int) (w : World) (H : TbAt w a es) (hok : TOk (es.map SE.s)) :
    Calls Try.prog 56 #[.slice a es.length cap, cmdC sess seq ack o1 o2 o3 o4 o5, .agg #[.int .i64 k, .int .i64 re, .int .i64 im]] w (TbNew w id (keepV (es.map SE.s) sess seq k re im)) := by
  refine calls_at (tab_ok _) Try.func56 rfl tTKeep (ρ := ⟨[sess, seq, ack, o1, o2, o3, o4, o5, k, re, im], [], [], [es.length, cap], [a]⟩) (ids := []) (hx := HX.nil) rfl (Facts.initP rfl oneNil) ?_
  obtain ⟨t, et⟩ : ∃ t, t = es.map SE.s := ⟨_, rfl⟩
  rw [← et] at hok ⊢
  obtain ⟨R, eR⟩ : ∃ R, R = keepV t sess seq k re im := ⟨_, rfl⟩
  rw [← eR]
  have htl : t.length = es.length := by rw [et, List.length_map]
  have hkk : ∀ e ∈ es, e.s.kept.length ≤ 1000000 := fun e he => Nat.le_trans (hok.kept e.s (by rw [et]; exact List.mem_map_of_mem he)) (by decide)
  refine node_tb (V := id) (tb := t) (fun _ => #[.slice a es.length cap]) (fun a' c' => ⟨[], [], [], [t.length, c'], [a']⟩) (by intros; kernel_rfl) (fun ids w2 hp hf => by
    rw [et]; exact tclone_any a cap es w2 (H.keep (fun k hk => hf.chg.block k hk (fun q => q))) (by have := hok.len; omega) hkk) (by intros; kernel_rfl) (by kernel_rfl) (by kernel_rfl) (by intros; kernel_rfl) (fun _ _ => oneNil) ?_
  intro a2 c2 es2 hm2 hdj2 hsm2 hnew2
  have hl1 : es2.length = t.length := by rw [← hm2, List.length_map]
  have hn1 : (es2.map fun e => e.s.no) = nosT t := by rw [← hm2]; unfold nosT; rw [List.map_map]; rfl
  have hlen := hok.len
  obtain ⟨i, ei⟩ : ∃ i, i = posI (nosT t) sess := ⟨_, rfl⟩
  refine holds_env (ρ' := ⟨[sess, seq, ack, o1, o2, o3, o4, o5, k, re, im], [], [], [es.length, cap, es2.length, c2], [a, a2]⟩) (by rw [hl1]; kernel_rfl) ?_
  refine holds_eq (HX.nil_and _) ?_
  have hnew3 : ∀ k, (tabR a2 c2 es2).F k → w.heap.size ≤ k := fun k hk => (hnew2 k hk).1
  refine node_P ⟨[(i : Int)], [hitI (nosT t) sess], [], [], []⟩ #[.slice a2 es2.length c2, .int .i64 sess, .func (.func 71) #[] #[]] (.tuple #[.int .i64 (i : Int), .bool (hitI (nosT t) sess)]) (by intros; kernel_rfl) (by intros; kernel_rfl) (by intros; kernel_rfl) (by intros; kernel_rfl) (by intros; kernel_rfl) oneNil (fun ids w2 hp hf => by
    have := bst_any a2 c2 es2 sess w2 (rw_cells hf.x.2) (by rw [hn1]; exact hok.nos) (by omega)
    rw [hn1, ← ei] at this; exact this) ?_
  have stay : R = t → ∀ {m : Mem} {ρ : Env} {v : SV} {pre : List Nat} {L : Stack}, (∀ ids, v.den ρ ids = .slice a2 es2.length c2) → (Tree.done v m).holds ⟨Try.prog, w, fun _ => False, TbNew w id R⟩ ρ pre (tabR a2 c2 es2) L := fun hR {m ρ v pre L} hv ids w2 hp hf => by
    rw [hR] at hf ⊢
    exact tb_fin hf hm2 hdj2 hnew3 (hv ids)
  rcases Bool.eq_false_or_eq_true (hitI (nosT t) sess) with hh | hh
  rotate_left
  · refine br_T (!(hitI (nosT t) sess)) (by kernel_rfl) (by rw [hh]; rfl) ?_
    exact stay (by rw [eR]; unfold keepV; rw [if_pos hh]) (by intros; kernel_rfl)
  refine br_F (!(hitI (nosT t) sess)) (by kernel_rfl) (by rw [hh]; rfl) ?_
  obtain ⟨s, hs, hsno, hs1, _⟩ := tabS_at t sess
  rw [← ei] at hs1
  have hts := hs1 hh
  obtain ⟨e, he, hes⟩ : ∃ e, es2[i]? = some e ∧ e.s = s := by
    have h1 : (es2.map SE.s)[i]? = some s := by rw [hm2]; exact hts
    rw [List.getElem?_map] at h1
    cases h4 : es2[i]? with
    | none => rw [h4] at h1; cases h1
    | some x => rw [h4] at h1; simp only [Option.map_some, Option.some.injEq] at h1; exact ⟨x, rfl, h1⟩
  have hem := List.mem_of_getElem? he
  have hi2 : i < es2.length := (List.getElem?_eq_some_iff.1 he).1
  have hwe : es2 ≠ [] := fun q => by rw [q] at hi2; simp at hi2
  have hsok : e.s.kept.length ≤ 1000 ∧ Rise (seqsK e.s.kept) := by
    rw [hes]
    have := List.mem_of_getElem? hts
    exact ⟨hok.kept s this, hok.seqs s this⟩
  obtain ⟨l, el⟩ : ∃ l, l = e.s.kept := ⟨_, rfl⟩
  rw [← el] at hsok
  obtain ⟨j, ej⟩ : ∃ j, j = posI (seqsK l) seq := ⟨_, rfl⟩
  have hR : R = if hitI (seqsK l) seq = true ∨ seq ≤ e.s.ack ∨ 8 ≤ l.length then t else t.set i ⟨e.s.no, e.s.ack, insAt l j ⟨seq, k, re, im⟩⟩ := by
    rw [eR]; unfold keepV
    rw [if_neg (by rw [hh]; decide), ← ei, hts]
    dsimp only
    rw [← hes, ← el, ← ej]
  have hi0 : (0 : Int) ≤ (i : Int) ∧ (i : Int) < (es2.length : Int) := by omega
  refine need_k (a2.isSome = true ∧ (0 : Int) ≤ i ∧ (i : Int) < es2.length) (by kernel_rfl) ⟨hsm2.tab hwe, hi0⟩ ?_
  have ldk2 : ∀ {m m' : Mem} {t : Tree} {L : Stack} {pre : List Nat} {R : Ending → World → Prop} {ρ : Env} {l2 : LV} {cs : List LV}, (∀ ids, l2.den ρ ids = .pointer (some (((a2.getD ⟨0, 0, none⟩).add (i * 3)).add 2))) → (∀ ids, cellsDen (ρ.add ⟨[], [], [], [l.length, e.c], [e.a]⟩) ids cs = [.slice e.a l.length e.c]) → (ρ.add ⟨[], [], [], [l.length, e.c], [e.a]⟩).cnt = m'.c → t.holds ⟨Try.prog, w, fun _ => False, R⟩ (ρ.add ⟨[], [], [], [l.length, e.c], [e.a]⟩) pre (tabR a2 c2 es2) L → (Tree.ld true l2 cs m m' t).holds ⟨Try.prog, w, fun _ => False, R⟩ ρ pre (tabR a2 c2 es2) L := fun h1 h2 h3 h4 =>
    node_ldk ⟨[], [], [], [l.length, e.c], [e.a]⟩ (fun _ => .pointer (some (((a2.getD ⟨0, 0, none⟩).add (i * 3)).add 2))) [.slice e.a l.length e.c] h1 h2 (fun ids w2 hp hf => se_key i e he (n := 0) (by rw [el]; rfl) (rw_cells hf.x.2)) h3 oneNil h4
  refine ldk2 (by intros; kernel_rfl) (by intros; kernel_rfl) (by kernel_rfl) ?_
  have hq : (l.map fun e => e.seq) = seqsK l := rfl
  refine node_P ⟨[(j : Int)], [hitI (seqsK l) seq], [], [], []⟩ #[.slice e.a l.length e.c, .int .i64 seq, .func (.func 76) #[] #[]] (.tuple #[.int .i64 (j : Int), .bool (hitI (seqsK l) seq)]) (by intros; kernel_rfl) (by intros; kernel_rfl) (by intros; kernel_rfl) (by intros; kernel_rfl) (by intros; kernel_rfl) oneNil (fun ids w2 hp hf => by
    have hc := rw_cells (hf.x.1 e hem)
    rw [← el] at hc
    have := bsk_any e.a e.c l seq w2 hc hsok.2 (by omega)
    rw [hq, ← ej] at this; exact this) ?_
  rcases Bool.eq_false_or_eq_true (hitI (seqsK l) seq) with hh2 | hh2
  · refine br_T (hitI (seqsK l) seq) (by kernel_rfl) hh2 ?_
    exact stay (by rw [hR, if_pos (.inl hh2)]) (by intros; kernel_rfl)
  refine br_F (hitI (seqsK l) seq) (by kernel_rfl) hh2 ?_
  refine node_ldk ⟨[e.s.ack], [], [], [], []⟩ (fun _ => .pointer (some (((a2.getD ⟨0, 0, none⟩).add (i * 3)).add 1))) [.int .i64 e.s.ack] (by intros; kernel_rfl) (by intros; kernel_rfl) (fun ids w2 hp hf => se_key i e he (n := 0) rfl (rw_cells hf.x.2)) (by kernel_rfl) oneNil ?_
  by_cases hst : seq ≤ e.s.ack
  · refine br_T (decide (seq ≤ e.s.ack)) (by kernel_rfl) (decide_eq_true hst) ?_
    exact stay (by rw [hR, if_pos (.inr (.inl hst))]) (by intros; kernel_rfl)
  refine br_F (decide (seq ≤ e.s.ack)) (by kernel_rfl) (decide_eq_false hst) ?_
  refine ldk2 (by intros; kernel_rfl) (by intros; kernel_rfl) (by kernel_rfl) ?_
  by_cases h8 : 8 ≤ l.length
  · refine br_T (decide ((l.length : Int) ≥ 8)) (by kernel_rfl) (decide_eq_true (by omega)) ?_
    exact stay (by rw [hR, if_pos (.inr (.inr h8))]) (by intros; kernel_rfl)
  refine br_F (decide ((l.length : Int) ≥ 8)) (by kernel_rfl) (decide_eq_false (by omega)) ?_
  rw [if_neg (by rw [hh2]; rintro (q | q | q) <;> first | cases q | omega)] at hR
  have hjl : j ≤ l.length := by
    have := pos_le (seqsK l) seq
    rw [ej]; unfold seqsK at this ⊢
    rwa [List.length_map] at this
  refine ⟨?_, ?_⟩
  all_goals
    refine ldk2 (by intros; kernel_rfl) (by intros; kernel_rfl) (by kernel_rfl) ?_
    refine holds_eq (show _ = ((ksR (es2.eraseIdx i)).and (tRow a2 c2 es2)).and (HX.rw 4 143 e.a l.length e.c (kcells l)) from by unfold tabR; rw [ksR_split he, HX.and_right_comm, el]; rfl) ?_
    have hdE := hdj2.one he
    refine node_rwm (V := id) (n' := l.length + 1) (zs := (kcells l).take (j * 4) ++ [.int .i64 seq, .int .i64 k, .int .i64 re, .int .i64 im] ++ (kcells l).drop (j * 4)) (fun ids => #[.slice e.a l.length e.c, .int .i64 (j : Int), .slice (some ⟨idAt ids 2, 0, none⟩) 1 1]) (fun a' c' => ⟨[], [], [], [l.length + 1, c'], [a']⟩) (by intros; kernel_rfl) (fun ids w2 hp hf => ?_) (fun q h1 h2 hF => ?_) (fun q h1 h2 => .inl (hnew3 q (.inl ⟨e, hem, h1, h2⟩))) (by intros; kernel_rfl) (by kernel_rfl) (by kernel_rfl) (by intros; kernel_rfl) (fun _ _ => oneNil) ?_
    · have hlt2 : 2 < ids.length := by rw [hf.len]; decide
      exact insk_any e.a e.c l.length j (kcells l) seq k re im (idAt ids 2) w2 hf.x.2 (hf.blkAt 2 rfl) hjl (by omega) (kp_one l) (fun k h1 h2 q => (hf.sep k (.inr ⟨h1, h2⟩)).2 (q ▸ idAt_mem hlt2))
    · rcases hF with hF | hF
      · exact (hdE q ⟨h1, h2⟩).1 hF
      · exact (hdE q ⟨h1, h2⟩).2 hF
    intro a' c' hsm' hdis' hwh'
    obtain ⟨l2, el2⟩ : ∃ l2, l2 = insAt l j ⟨seq, k, re, im⟩ := ⟨_, rfl⟩
    have hl2 : l2.length = l.length + 1 := by rw [el2, insAt_len _ hjl]
    have hz : (kcells l).take (j * 4) ++ [Value.int .i64 seq, .int .i64 k, .int .i64 re, .int .i64 im] ++ (kcells l).drop (j * 4) = kcells l2 := by rw [el2]; exact (insAt_flat kp_len l j ⟨seq, k, re, im⟩).symm
    obtain ⟨e3, ee3⟩ : ∃ e3 : SE, e3 = ⟨⟨e.s.no, e.s.ack, l2⟩, a', c'⟩ := ⟨_, rfl⟩
    obtain ⟨hdj3, hnew4⟩ := tb_sep (s := ⟨e.s.no, e.s.ack, l2⟩) he hdj2 hnew3 hdis' (fun q h1 h2 => by
      rcases hwh' q h1 h2 with z | z
      · exact hnew3 q (.inl ⟨e, hem, z.1, z.2⟩)
      · exact z.1)
    rw [← ee3] at hdj3 hnew4
    refine holds_eq (show _ = ((ksR (es2.eraseIdx i)).and (kRow e3)).and (HX.rw 3 141 a2 es2.length c2 (secells es2)) from by rw [hz, HX.and_right_comm, ee3]; unfold kRow tRow; dsimp only; rw [hl2]) ?_
    refine node_stores (sz := 3) a2 es2.length c2 (secells es2) [.slice a' (l.length + 1) c'] i 2 (.slice a' (l.length + 1) c') (by kernel_rfl) (by intros; kernel_rfl) (by intros; kernel_rfl) rfl (by simp [Value.oneCell']) (by simp; omega) (by simp) (fun q h1 h2 hF => ?_) (fun q h1 h2 => .inl (hnew3 q (.inr ⟨h1, h2⟩))) (by kernel_rfl) (by kernel_rfl) (by kernel_rfl) ?_
    · rcases hF with hF | hF
      · exact hdj2.row q ⟨h1, h2⟩ (by rw [ksR_split he]; exact .inl hF)
      · rw [ee3] at hF; exact hdis' q hF.1 hF.2 (.inr ⟨h1, h2⟩)
    have hst3 : spl (secells es2) (i * 3 + 2) [.slice a' (l.length + 1) c'] = secells (es2.set i e3) := flat_spl se_len he (e' := e3) (o := 2) (us := [.slice a' (l.length + 1) c']) (by simp) (by rw [ee3, ← hl2]; rfl)
    rw [hst3]
    refine holds_eq (show _ = tabR a2 c2 (es2.set i e3) from by unfold tabR tRow; rw [ksR_set he, List.length_set]) ?_
    have hl3 : (es2.set i e3).length = es2.length := List.length_set ..
    rw [hR]
    intro ids w2 hp hf
    exact tb_fin hf (by rw [List.map_set, hm2, ee3, el2]) hdj3 hnew4 (by rw [hl3]; kernel_rfl)
def validK (seq : Int) : List KpD → Bool
  | [] => true
  | k :: r => decide (seq < k.seq ∧ k.seq ≤ 1099511627776 ∧ 1 ≤ k.kind ∧ k.kind ≤ 3) && validK k.seq r
def validS (last : Int) : List SsD → Bool
  | [] => true
  | s :: r => decide (last < s.no ∧ s.no ≤ 1073741824 ∧ 0 ≤ s.ack ∧ s.ack ≤ 1099511627776 ∧ s.kept.length ≤ 8) && validK s.ack s.kept && validS s.no r
def validT (t : List SsD) : Bool := validS 0 t && decide (t.length ≤ 16)
def VaI (t : List SsD) (vs : Vals) (hx : HX) : Prop := ∃ (k : Nat) (last : Int), k ≤ t.length ∧ validS last (t.drop k) = validS 0 t ∧ vs = ⟨[(k : Int), last], [], [], [], []⟩ ∧ hx = HX.nil
def VbI (l : List KpD) (ack : Int) (vs : Vals) (hx : HX) : Prop := ∃ (j : Nat) (seq : Int), j ≤ l.length ∧ validK seq (l.drop j) = validK ack l ∧ vs = ⟨[(j : Int), seq], [], [], [], []⟩ ∧ hx = HX.nil
set_option maxHeartbeats 2000000 in
theorem tvalid_any (a : Option Addr) (cap : Nat) (es : List SE) (w : World) (H : TbAt w a es) (hl : es.length ≤ 4611686018427387904) : Calls Try.prog 53 #[.slice a es.length cap] w (PureAt w (.bool (validT (es.map SE.s)))) := by
  refine calls_at (tab_ok _) Try.func53 rfl tTValid (ρ := ⟨[], [], [], [es.length, cap], [a]⟩) (ids := []) (hx := HX.nil) rfl (Facts.initP rfl oneNil) ?_
  obtain ⟨t, et⟩ : ∃ t, t = es.map SE.s := ⟨_, rfl⟩
  rw [← et]
  have htl : t.length = es.length := by rw [et, List.length_map]
  refine loop_i (VaI t) (fun vs => t.length - (vs.i.headD 0).toNat) (fun ids w2 hp hf => ⟨HX.nil, HXok.none _ _, 0, 0, Nat.zero_le _, rfl, rfl, rfl⟩) ?_
  rintro vs hx' hcnt ⟨k, last, hk, hv, rfl, rfl⟩
  by_cases hlt : k < es.length
  rotate_left
  · refine br_F (decide ((k : Int) < (es.length : Int))) (by kernel_rfl) (decide_eq_false (by omega)) (pure_done fun ids => ?_)
    obtain rfl : k = t.length := by omega
    rw [List.drop_length] at hv
    refine Eq.trans (b := .bool (decide ((es.length : Int) ≤ 16))) (by kernel_rfl) ?_
    unfold validT
    rw [← hv]
    show _ = Value.bool (true && _)
    rw [Bool.true_and]
    congr 1
    rw [decide_eq_decide]; omega
  refine br_T (decide ((k : Int) < (es.length : Int))) (by kernel_rfl) (decide_eq_true (by omega)) ?_
  obtain ⟨e, he⟩ : ∃ e, es[k]? = some e := ⟨_, List.getElem?_eq_getElem hlt⟩
  have hem := List.mem_of_getElem? he
  have hts : t[k]? = some e.s := by rw [et, List.getElem?_map, he]; rfl
  have hdr : t.drop k = e.s :: t.drop (k + 1) := by
    obtain ⟨h1, h2⟩ := List.getElem?_eq_some_iff.1 hts
    rw [List.drop_eq_getElem_cons h1, h2]
  rw [hdr] at hv
  have hbad : (last < e.s.no ∧ e.s.no ≤ 1073741824 ∧ 0 ≤ e.s.ack ∧ e.s.ack ≤ 1099511627776 ∧ e.s.kept.length ≤ 8 → validK e.s.ack e.s.kept = false) → validT t = false := fun h => by
    unfold validT
    rw [← hv]
    unfold validS
    by_cases hc : last < e.s.no ∧ e.s.no ≤ 1073741824 ∧ 0 ≤ e.s.ack ∧ e.s.ack ≤ 1099511627776 ∧ e.s.kept.length ≤ 8
    · rw [h hc, Bool.and_false, Bool.false_and, Bool.false_and]
    · rw [decide_eq_false hc, Bool.false_and, Bool.false_and, Bool.false_and]
  have fin : validT t = false → ∀ {m : Mem} {ρ : Env} {pre : List Nat} {L : Stack}, (Tree.done (.lf (.bool (.lit false))) m).holds ⟨Try.prog, w, fun _ => False, PureAt w (.bool (validT t))⟩ ρ pre HX.nil L := fun h {m ρ pre L} => by
    rw [h]; exact pure_done (fun ids => rfl)
  obtain ⟨s1, q1⟩ := flat_part se_len H.row he (o := 0) e.cells (fun j u hj => by rw [Nat.zero_add]; exact hj) (by simp [SE.cells])
  refine need_k (a.isSome = true ∧ (0 : Int) ≤ k ∧ (k : Int) < es.length) (by kernel_rfl) ⟨s1, by omega, by omega⟩ ?_
  refine node_ld0 (k := ⟨2, 0, 0, 2, 1⟩) ⟨[e.s.no, e.s.ack], [], [], [e.s.kept.length, e.c], [e.a]⟩ (.pointer (some (((a.getD ⟨0, 0, none⟩).add (k * 3)).add 0))) e.cells (by intros; kernel_rfl) (by intros; kernel_rfl) (q1 _ (fun q => q)) ⟨rfl, oneNil⟩ (by kernel_rfl) oneNil ?_
  by_cases h1 : e.s.no ≤ last
  · exact br_T (decide (e.s.no ≤ last)) (by kernel_rfl) (decide_eq_true h1) (fin (hbad (fun q => by omega)))
  refine br_F (decide (e.s.no ≤ last)) (by kernel_rfl) (decide_eq_false h1) ?_
  by_cases h2 : e.s.no > 1073741824
  · exact br_T (decide (e.s.no > 1073741824)) (by kernel_rfl) (decide_eq_true h2) (fin (hbad (fun q => by omega)))
  refine br_F (decide (e.s.no > 1073741824)) (by kernel_rfl) (decide_eq_false h2) ?_
  by_cases h3 : e.s.ack < 0
  · exact br_T (decide (e.s.ack < 0)) (by kernel_rfl) (decide_eq_true h3) (fin (hbad (fun q => by omega)))
  refine br_F (decide (e.s.ack < 0)) (by kernel_rfl) (decide_eq_false h3) ?_
  by_cases h4 : e.s.ack > 1099511627776
  · exact br_T (decide (e.s.ack > 1099511627776)) (by kernel_rfl) (decide_eq_true h4) (fin (hbad (fun q => by omega)))
  refine br_F (decide (e.s.ack > 1099511627776)) (by kernel_rfl) (decide_eq_false h4) ?_
  by_cases h5 : e.s.kept.length > 8
  · exact br_T (decide ((e.s.kept.length : Int) > 8)) (by kernel_rfl) (decide_eq_true (by omega)) (fin (hbad (fun q => by omega)))
  refine br_F (decide ((e.s.kept.length : Int) > 8)) (by kernel_rfl) (decide_eq_false (by omega)) ?_
  obtain ⟨l, el⟩ : ∃ l, l = e.s.kept := ⟨_, rfl⟩
  rw [← el] at hbad h5
  refine loop_i (VbI l e.s.ack) (fun vs => l.length - (vs.i.headD 0).toNat) (fun ids w2 hp hf => ⟨HX.nil, HXok.none _ _, 0, e.s.ack, Nat.zero_le _, rfl, by kernel_rfl, rfl⟩) ?_
  rintro vs hx' hcnt2 ⟨j, seq, hj, hv2, rfl, rfl⟩
  refine holds_env (ρ' := ⟨[(k : Int), last, e.s.no, e.s.ack, (j : Int), seq], [], [], [es.length, cap, l.length, e.c], [a, e.a]⟩) (by rw [el]; kernel_rfl) ?_
  by_cases hlt2 : j < l.length
  rotate_left
  · refine br_F (decide ((j : Int) < (l.length : Int))) (by kernel_rfl) (decide_eq_false (by omega)) ?_
    obtain rfl : j = l.length := by omega
    rw [List.drop_length] at hv2
    have hwk : IntKind.i64.wrap ((k : Int) + 1) = ((k + 1 : Nat) : Int) := by rw [wrap_i64 (by omega)]; omega
    refine again_V ⟨[((k + 1 : Nat) : Int), e.s.no], [], [], [], []⟩ rfl (fun ids => Eq.trans (b := ⟨[IntKind.i64.wrap ((k : Int) + 1), e.s.no], [], [], [], []⟩) (by kernel_rfl) (by rw [hwk])) HX.nil (fun w2 ids hf => HXok.none _ _) ⟨⟨k + 1, e.s.no, by omega, ?_, rfl, rfl⟩, ?_⟩
    · rw [← hv]
      show _ = (decide _ && validK e.s.ack e.s.kept && validS e.s.no (t.drop (k + 1)))
      rw [← el, ← hv2, decide_eq_true (by omega)]
      show _ = (true && true && _)
      rw [Bool.true_and, Bool.true_and]
    · show t.length - (((k + 1 : Nat) : Int)).toNat < t.length - ((k : Int)).toNat
      omega
  refine br_T (decide ((j : Int) < (l.length : Int))) (by kernel_rfl) (decide_eq_true (by omega)) ?_
  obtain ⟨p, hp⟩ : ∃ p, l[j]? = some p := ⟨_, List.getElem?_eq_getElem hlt2⟩
  have hdr2 : l.drop j = p :: l.drop (j + 1) := by
    obtain ⟨h1, h2⟩ := List.getElem?_eq_some_iff.1 hp
    rw [List.drop_eq_getElem_cons h1, h2]
  rw [hdr2] at hv2
  have hHl : Cells w e.a (kcells l) := by rw [el]; exact H.each e hem
  obtain ⟨s2, q2⟩ := flat_part kp_len hHl hp (o := 0) p.cells (fun j u hj => by rw [Nat.zero_add]; exact hj) (by simp [KpD.cells])
  have hbad2 : ¬ (seq < p.seq ∧ p.seq ≤ 1099511627776 ∧ 1 ≤ p.kind ∧ p.kind ≤ 3) → validT t = false := fun h => hbad fun _ => by
    rw [← hv2]
    unfold validK
    rw [decide_eq_false h, Bool.false_and]
  refine need_k (e.a.isSome = true ∧ (0 : Int) ≤ j ∧ (j : Int) < l.length) (by kernel_rfl) ⟨s2, by omega, by omega⟩ ?_
  refine node_ld0 (k := ⟨6, 0, 0, 4, 2⟩) ⟨[p.seq, p.kind, p.re, p.im], [], [], [], []⟩ (.pointer (some (((e.a.getD ⟨0, 0, none⟩).add (j * 4)).add 0))) p.cells (by intros; kernel_rfl) (by intros; kernel_rfl) (q2 _ (fun q => q)) ⟨rfl, oneNil⟩ (by kernel_rfl) oneNil ?_
  by_cases g1 : p.seq ≤ seq
  · exact br_T (decide (p.seq ≤ seq)) (by kernel_rfl) (decide_eq_true g1) (fin (hbad2 (fun q => by omega)))
  refine br_F (decide (p.seq ≤ seq)) (by kernel_rfl) (decide_eq_false g1) ?_
  by_cases g2 : p.seq > 1099511627776
  · exact br_T (decide (p.seq > 1099511627776)) (by kernel_rfl) (decide_eq_true g2) (fin (hbad2 (fun q => by omega)))
  refine br_F (decide (p.seq > 1099511627776)) (by kernel_rfl) (decide_eq_false g2) ?_
  by_cases g3 : p.kind < 1
  · exact br_T (decide (p.kind < 1)) (by kernel_rfl) (decide_eq_true g3) (fin (hbad2 (fun q => by omega)))
  refine br_F (decide (p.kind < 1)) (by kernel_rfl) (decide_eq_false g3) ?_
  by_cases g4 : p.kind > 3
  · exact br_T (decide (p.kind > 3)) (by kernel_rfl) (decide_eq_true g4) (fin (hbad2 (fun q => by omega)))
  refine br_F (decide (p.kind > 3)) (by kernel_rfl) (decide_eq_false g4) ?_
  have hwj : IntKind.i64.wrap ((j : Int) + 1) = ((j + 1 : Nat) : Int) := by rw [wrap_i64 (by omega)]; omega
  refine again_V ⟨[((j + 1 : Nat) : Int), p.seq], [], [], [], []⟩ rfl (fun ids => Eq.trans (b := ⟨[IntKind.i64.wrap ((j : Int) + 1), p.seq], [], [], [], []⟩) (by kernel_rfl) (by rw [hwj])) HX.nil (fun w2 ids hf => HXok.none _ _) ⟨⟨j + 1, p.seq, by omega, ?_, rfl, rfl⟩, ?_⟩
  · rw [← hv2]
    show _ = (decide _ && validK p.seq (l.drop (j + 1)))
    rw [decide_eq_true (by omega), Bool.true_and]
  · show l.length - (((j + 1 : Nat) : Int)).toNat < l.length - ((j : Int)).toNat
    omega
end Go.Proofs.Ytbedoemdjlollaa

namespace Go.Proofs.Ytbedoemdjlollaa
open Go.Eng
set_option linter.unusedVariables false
set_option linter.unusedSimpArgs false
structure VSe (s : SsD) : Prop where
  no1 : 1 ≤ s.no
  no2 : s.no ≤ 1073741824
  ack1 : 0 ≤ s.ack
  ack2 : s.ack ≤ 1099511627776
  len : s.kept.length ≤ 8
  seqs : Rise (seqsK s.kept)
  each : ∀ k ∈ s.kept, s.ack < k.seq ∧ k.seq ≤ 1099511627776 ∧ 1 ≤ k.kind ∧ k.kind ≤ 3
structure VT (t : List SsD) : Prop where
  len : t.length ≤ 16
  nos : Rise (nosT t)
  each : ∀ s ∈ t, VSe s
theorem rise_cons {x : Int} {l : List Int} : Rise (x :: l) ↔ (∀ y ∈ l, x < y) ∧ Rise l := by rw [rise_pw, rise_pw, List.pairwise_cons]
theorem validK_iff (l : List KpD) : ∀ seq, validK seq l = true ↔ (∀ k ∈ l, seq < k.seq ∧ k.seq ≤ 1099511627776 ∧ 1 ≤ k.kind ∧ k.kind ≤ 3) ∧ Rise (seqsK l) := by
  induction l with
  | nil => intro seq; exact ⟨fun _ => ⟨fun k hk => by simp at hk, fun i j x y _ h => by simp [seqsK] at h⟩, fun _ => rfl⟩
  | cons k r ih =>
    intro seq
    unfold validK
    rw [Bool.and_eq_true, decide_eq_true_iff, ih k.seq]
    show _ ↔ _ ∧ Rise (k.seq :: seqsK r)
    rw [rise_cons]
    constructor
    · rintro ⟨h1, h2, h3⟩
      refine ⟨fun x hx => ?_, fun y hy => ?_, h3⟩
      · rcases List.mem_cons.1 hx with rfl | hx
        · exact h1
        · have := h2 x hx; omega
      · obtain ⟨x, hx, rfl⟩ := List.mem_map.1 hy
        exact (h2 x hx).1
    · rintro ⟨h1, h2, h3⟩
      refine ⟨h1 k List.mem_cons_self, fun x hx => ?_, h3⟩
      have := h1 x (List.mem_cons_of_mem _ hx)
      exact ⟨h2 _ (List.mem_map_of_mem hx), this.2⟩
theorem validS_iff (t : List SsD) : ∀ last, 0 ≤ last → (validS last t = true ↔ (∀ s ∈ t, last < s.no ∧ VSe s) ∧ Rise (nosT t)) := by
  induction t with
  | nil => intro last _; exact ⟨fun _ => ⟨fun k hk => by simp at hk, fun i j x y _ h => by simp [nosT] at h⟩, fun _ => rfl⟩
  | cons s r ih =>
    intro last h0
    unfold validS
    rw [Bool.and_eq_true, Bool.and_eq_true, decide_eq_true_iff, validK_iff]
    show _ ↔ _ ∧ Rise (s.no :: nosT r)
    rw [rise_cons]
    constructor
    · rintro ⟨⟨h1, h2, h3⟩, h4⟩
      obtain ⟨h5, h6⟩ := (ih s.no (by omega)).1 h4
      refine ⟨fun x hx => ?_, fun y hy => ?_, h6⟩
      · rcases List.mem_cons.1 hx with rfl | hx
        · exact ⟨h1.1, by omega, h1.2.1, h1.2.2.1, h1.2.2.2.1, h1.2.2.2.2, h3, h2⟩
        · have := h5 x hx
          exact ⟨by omega, this.2⟩
      · obtain ⟨x, hx, rfl⟩ := List.mem_map.1 hy
        exact (h5 x hx).1
    · rintro ⟨h1, h2, h3⟩
      obtain ⟨h4, h5⟩ := h1 s List.mem_cons_self
      refine ⟨⟨⟨h4, h5.no2, h5.ack1, h5.ack2, h5.len⟩, h5.each, h5.seqs⟩, (ih s.no (by omega)).2 ⟨fun x hx => ⟨h2 _ (List.mem_map_of_mem hx), (h1 x (List.mem_cons_of_mem _ hx)).2⟩, h3⟩⟩
theorem validT_iff (t : List SsD) : validT t = true ↔ VT t := by
  unfold validT
  rw [Bool.and_eq_true, decide_eq_true_iff, validS_iff t 0 (Int.le_refl _)]
  exact ⟨fun h => ⟨h.2, h.1.2, fun s hs => (h.1.1 s hs).2⟩, fun h => ⟨⟨fun s hs => ⟨by have := (h.each s hs).no1; omega, h.each s hs⟩, h.nos⟩, h.len⟩⟩
theorem VT.ok {t : List SsD} (h : VT t) : TOk t := ⟨by have := h.len; omega, fun s hs => by have := (h.each s hs).len; omega, h.nos, fun s hs => (h.each s hs).seqs⟩
theorem VT.nil : VT [] := ⟨Nat.zero_le _, fun i j x y _ h => by simp [nosT] at h, fun s hs => by simp at hs⟩
theorem pos_lt {ks : List Int} {t : Int} : ∀ {x : Nat} {k : Int}, x < posI ks t → ks[x]? = some k → k < t := by
  induction ks with
  | nil => intro x k h; simp [posI] at h
  | cons a r ih =>
    intro x k h hk
    unfold posI at h
    rw [List.takeWhile_cons] at h
    split at h
    · rename_i ha
      cases x with
      | zero => cases hk; exact of_decide_eq_true ha
      | succ x => exact ih (x := x) (by rw [List.length_cons] at h; unfold posI; omega) (by simpa using hk)
    · simp at h
theorem pos_at {ks : List Int} {t k : Int} (h : ks[posI ks t]? = some k) : t ≤ k := by
  induction ks with
  | nil => simp [posI] at h
  | cons a r ih =>
    unfold posI at h
    rw [List.takeWhile_cons] at h
    split at h
    · rw [List.length_cons, List.getElem?_cons_succ] at h
      exact ih h
    · rename_i ha
      cases h
      have : ¬ k < t := fun q => ha (decide_eq_true q)
      omega
theorem pos_ge {ks : List Int} {t : Int} (hr : Rise ks) {x : Nat} {k : Int} (h : posI ks t ≤ x) (hk : ks[x]? = some k) : t ≤ k := by
  have hx := (List.getElem?_eq_some_iff.1 hk).1
  obtain ⟨k0, h0⟩ : ∃ k0, ks[posI ks t]? = some k0 := ⟨_, List.getElem?_eq_getElem (by omega)⟩
  have h1 := pos_at h0
  rcases Nat.lt_or_ge (posI ks t) x with q | q
  · have := hr _ _ _ _ q h0 hk; omega
  · have : x = posI ks t := by omega
    subst this; rw [h0] at hk; cases hk; exact h1
theorem pos_gt {ks : List Int} {t : Int} (hr : Rise ks) (hh : hitI ks t = false) {x : Nat} {k : Int} (h : posI ks t ≤ x) (hk : ks[x]? = some k) : t < k := by
  have h1 := pos_ge hr h hk
  have hx := (List.getElem?_eq_some_iff.1 hk).1
  rcases Int.lt_or_eq_of_le h1 with q | q
  · exact q
  · subst q
    exfalso
    obtain ⟨k0, h0⟩ : ∃ k0, ks[posI ks t]? = some k0 := ⟨_, List.getElem?_eq_getElem (by omega)⟩
    have h2 := pos_at h0
    rcases Nat.lt_or_ge (posI ks t) x with q | q
    · have := hr _ _ _ _ q h0 hk; omega
    · have : x = posI ks t := by omega
      rw [this] at hk
      have := hit_iff.2 hk
      rw [hh] at this; cases this
theorem rise_ins {ks : List Int} {t : Int} (hr : Rise ks) (hh : hitI ks t = false) : Rise (insAt ks (posI ks t) t) := by
  have hle := pos_le ks t
  intro i j x y hij hx hy
  rw [insAt_get _ hle] at hx hy
  split at hx
  · split at hy
    · exact hr _ _ _ _ hij hx hy
    · split at hy
      · cases hy; rename_i h1 _ _; exact pos_lt h1 hx
      · exact hr _ _ _ _ (by omega) hx hy
  · split at hx
    · cases hx
      rw [if_neg (by omega), if_neg (by omega)] at hy
      exact pos_gt hr hh (by omega) hy
    · rw [if_neg (by omega), if_neg (by omega)] at hy
      exact hr _ _ _ _ (by omega) hx hy
theorem nosT_set {t : List SsD} {i : Nat} {s s' : SsD} (h : t[i]? = some s) (e : s'.no = s.no) : nosT (t.set i s') = nosT t := by
  unfold nosT
  rw [List.map_set, e]
  refine List.ext_getElem? fun j => ?_
  by_cases hj : i = j
  · subst hj
    obtain ⟨h1, h2⟩ := List.getElem?_eq_some_iff.1 h
    rw [List.getElem?_set_self (by rw [List.length_map]; exact h1), List.getElem?_map, h]; rfl
  · rw [List.getElem?_set_ne hj]
theorem VT.set {t : List SsD} (h : VT t) {i : Nat} {s s' : SsD} (hs : t[i]? = some s) (e : s'.no = s.no) (h' : VSe s') : VT (t.set i s') :=
  ⟨by rw [List.length_set]; exact h.len, by rw [nosT_set hs e]; exact h.nos, fun x hx => by
    rcases List.mem_or_eq_of_mem_set hx with hx | hx
    · exact h.each x hx
    · rw [hx]; exact h'⟩
theorem VT.tab {t : List SsD} (h : VT t) {sess : Int} (h1 : 1 ≤ sess) (h2 : sess ≤ 1073741824) (hn : ¬ (hitI (nosT t) sess = false ∧ 16 ≤ t.length)) : VT (tabS t sess) := by
  unfold tabS
  rcases Bool.eq_false_or_eq_true (hitI (nosT t) sess) with hh | hh
  · rw [if_pos hh]; exact h
  · rw [if_neg (by rw [hh]; decide)]
    have hle : posI (nosT t) sess ≤ t.length := by
      have := pos_le (nosT t) sess
      unfold nosT at this ⊢
      rwa [List.length_map] at this
    refine ⟨?_, ?_, fun x hx => ?_⟩
    · rw [insAt_len _ hle]
      have : ¬ 16 ≤ t.length := fun q => hn ⟨hh, q⟩
      omega
    · have := rise_ins h.nos hh
      unfold nosT at this ⊢
      rw [insAt_map]; exact this
    · rcases insAt_mem.1 hx with hx | hx
      · exact h.each x hx
      · rw [hx]
        exact ⟨h1, h2, Int.le_refl _, (by decide : (0 : Int) ≤ 1099511627776), Nat.zero_le _, fun i j x y _ h => by simp [seqsK] at h, fun k hk => by simp at hk⟩
theorem VSe.upd {s : SsD} (h : VSe s) {ack : Int} (h2 : ack ≤ 1099511627776) : VSe (updS ack s) := by
  have ha := h.ack1
  have hb := h.ack2
  refine ⟨h.no1, h.no2, ?_, ?_, Nat.le_trans (List.length_filter_le _ _) h.len, rise_filter h.seqs _, fun k hk => ?_⟩
  · show 0 ≤ max s.ack ack
    omega
  · show max s.ack ack ≤ _
    omega
  · obtain ⟨h3, h4⟩ := List.mem_filter.1 hk
    exact ⟨of_decide_eq_true h4, (h.each k h3).2⟩
theorem ask_cases (t : List SsD) (sess seq ack : Int) : (hitI (nosT t) sess = false ∧ 16 ≤ t.length ∧ askV t sess seq ack = ⟨t, 5, 0, 0, true⟩) ∨
    (¬ (hitI (nosT t) sess = false ∧ 16 ≤ t.length) ∧ ∃ s, (tabS t sess)[posI (nosT t) sess]? = some s ∧ s.no = sess ∧ (hitI (nosT t) sess = true → t[posI (nosT t) sess]? = some s) ∧ (hitI (nosT t) sess = false → s = ⟨sess, 0, []⟩) ∧
      askV t sess seq ack = askS ((tabS t sess).set (posI (nosT t) sess) (updS ack s)) (updS ack s) seq) := by
  unfold askV
  by_cases h : hitI (nosT t) sess = false ∧ 16 ≤ t.length
  · rw [if_pos h]; exact .inl ⟨h.1, h.2, rfl⟩
  · rw [if_neg h]
    obtain ⟨s, hs, h1, h2, h3⟩ := tabS_at t sess
    refine .inr ⟨h, s, hs, h1, h2, h3, ?_⟩
    rw [hs]
theorem askS_t (t2 : List SsD) (s : SsD) (seq : Int) : (askS t2 s seq).t = t2 := by
  unfold askS
  split
  · rfl
  · split
    · split <;> rfl
    · split <;> rfl
theorem VT.ask {t : List SsD} (h : VT t) {sess seq ack : Int} (h1 : 1 ≤ sess) (h2 : sess ≤ 1073741824) (h3 : ack ≤ 1099511627776) : VT (askV t sess seq ack).t := by
  rcases ask_cases t sess seq ack with ⟨_, _, e⟩ | ⟨hn, s, hs, hsn, _, _, e⟩
  · rw [e]; exact h
  · rw [e, askS_t]
    have ht := h.tab h1 h2 hn
    exact ht.set hs rfl ((ht.each s (List.mem_of_getElem? hs)).upd h3)
theorem VT.keep {t : List SsD} (h : VT t) {sess seq k re im : Int} (h1 : seq ≤ 1099511627776) (h2 : 1 ≤ k) (h3 : k ≤ 3) : VT (keepV t sess seq k re im) := by
  unfold keepV
  split
  · exact h
  · split
    · exact h
    · rename_i s hs
      split
      · exact h
      · rename_i hc
        have hv := h.each s (List.mem_of_getElem? hs)
        have hh : hitI (seqsK s.kept) seq = false := by
          rcases Bool.eq_false_or_eq_true (hitI (seqsK s.kept) seq) with q | q
          · exact absurd (.inl q) hc
          · exact q
        have ha : ¬ seq ≤ s.ack := fun q => hc (.inr (.inl q))
        have h8 : ¬ 8 ≤ s.kept.length := fun q => hc (.inr (.inr q))
        have hle : posI (seqsK s.kept) seq ≤ s.kept.length := by
          have := pos_le (seqsK s.kept) seq
          unfold seqsK at this ⊢
          rwa [List.length_map] at this
        refine h.set hs rfl ⟨hv.no1, hv.no2, hv.ack1, hv.ack2, ?_, ?_, fun x hx => ?_⟩
        · show (insAt _ _ _).length ≤ 8
          rw [insAt_len _ hle]; omega
        · have := rise_ins hv.seqs hh
          unfold seqsK at this ⊢
          rw [insAt_map]; exact this
        · rcases insAt_mem.1 hx with hx | hx
          · exact hv.each x hx
          · rw [hx]; exact ⟨by show s.ack < seq; omega, h1, h2, h3⟩
theorem tab0 (a : Option Addr) (w : World) (ids : List Nat) : HXok (tabR a 0 []) w ids := ⟨⟨fun e he => by simp at he, HX.rw_nil _ _ _ _⟩, fun b hb => by
  rcases hb with ⟨e, he, _⟩ | ⟨h, _⟩
  · simp at he
  · exact absurd rfl h⟩
end Go.Proofs.Ytbedoemdjlollaa

namespace Go.Eng
open Go.RowKit Go.Syn Go.MapKept
set_option linter.unusedVariables false
set_option linter.unusedSimpArgs false
section
variable {α β : Type}
def mlk (m : List (Int × α)) (k : Int) : Option α := (m.find? (fun p => p.1 == k)).map (·.2)
def mput (m : List (Int × α)) (k : Int) (v : α) : List (Int × α) := if (mlk m k).isSome then m.map (fun p => if p.1 = k then (k, v) else p) else m ++ [(k, v)]
def mmap (f : α → β) (m : List (Int × α)) : List (Int × β) := m.map fun p => (p.1, f p.2)
def NdK (m : List (Int × α)) : Prop := (m.map (·.1)).Nodup
theorem mlk_nil (k : Int) : mlk ([] : List (Int × α)) k = none := rfl
theorem mlk_cons (p : Int × α) (m : List (Int × α)) (k : Int) : mlk (p :: m) k = if p.1 = k then some p.2 else mlk m k := by
  unfold mlk
  rw [List.find?_cons]
  by_cases h : p.1 = k
  · simp [h]
  · rw [if_neg h, show (p.1 == k) = false by simpa using h]
theorem mlk_map (f : α → β) (m : List (Int × α)) (k : Int) : mlk (mmap f m) k = (mlk m k).map f := by
  induction m with
  | nil => rfl
  | cons p m ih =>
    show mlk ((p.1, f p.2) :: mmap f m) k = _
    rw [mlk_cons, mlk_cons]
    by_cases h : p.1 = k
    · simp [h]
    · simp [h, ih]
theorem mput_map (f : α → β) (m : List (Int × α)) (k : Int) (v : α) : mput (mmap f m) k (f v) = mmap f (mput m k v) := by
  unfold mput
  rw [mlk_map]
  cases h : mlk m k with
  | none => simp [mmap]
  | some x =>
    simp only [Option.map_some, Option.isSome_some, if_true]
    unfold mmap
    rw [List.map_map, List.map_map]
    refine List.map_congr_left fun p _ => ?_
    simp only [Function.comp]
    by_cases e : p.1 = k
    · simp [e]
    · simp [e]
theorem mlk_none_iff {m : List (Int × α)} {k : Int} : mlk m k = none ↔ ∀ p ∈ m, p.1 ≠ k := by
  induction m with
  | nil => simp [mlk_nil]
  | cons p m ih =>
    rw [mlk_cons]
    by_cases h : p.1 = k
    · simp [h]
    · simp [h, ih]
theorem mlk_mem {m : List (Int × α)} {k : Int} {v : α} (h : mlk m k = some v) : (k, v) ∈ m := by
  induction m with
  | nil => cases h
  | cons p m ih =>
    rw [mlk_cons] at h
    split at h
    · rename_i e; cases h; rw [← e]; exact List.mem_cons_self
    · exact List.mem_cons_of_mem _ (ih h)
theorem mput_mem {m : List (Int × α)} {k : Int} {v : α} {p : Int × α} (h : p ∈ mput m k v) : p = (k, v) ∨ (p ∈ m ∧ p.1 ≠ k) := by
  unfold mput at h
  split at h
  · obtain ⟨q, hq, rfl⟩ := List.mem_map.1 h
    by_cases e : q.1 = k
    · rw [if_pos e]; exact .inl rfl
    · rw [if_neg e]; exact .inr ⟨hq, e⟩
  · rename_i hn
    have hn : mlk m k = none := by simpa using hn
    rcases List.mem_append.1 h with h | h
    · exact .inr ⟨h, mlk_none_iff.1 hn p h⟩
    · exact .inl (List.mem_singleton.1 h)
theorem NdK.filter {m : List (Int × α)} (h : NdK m) (f : Int × α → Bool) : NdK (m.filter f) := (List.Sublist.map _ List.filter_sublist).nodup h
theorem NdK.put {m : List (Int × α)} (h : NdK m) (k : Int) (v : α) : NdK (mput m k v) := by
  unfold mput
  split
  · have : (m.map fun p => if p.1 = k then (k, v) else p).map (·.1) = m.map (·.1) := by
      rw [List.map_map]
      refine List.map_congr_left fun p _ => ?_
      simp only [Function.comp]
      by_cases e : p.1 = k
      · simp [e]
      · simp [e]
    unfold NdK; rw [this]; exact h
  · rename_i hn
    have hn : mlk m k = none := by simpa using hn
    unfold NdK
    rw [List.map_append]
    refine List.nodup_append.2 ⟨h, by simp, ?_⟩
    intro a ha b hb
    simp only [List.map_cons, List.map_nil, List.mem_singleton] at hb
    subst hb
    obtain ⟨p, hp, rfl⟩ := List.mem_map.1 ha
    exact mlk_none_iff.1 hn p hp
theorem mput_len (m : List (Int × α)) (k : Int) (v : α) : (mput m k v).length = if (mlk m k).isSome then m.length else m.length + 1 := by
  unfold mput
  split
  · rw [List.length_map]
  · rw [List.length_append]; rfl
theorem vlk_is (m : List (Int × Value)) (k : Int) : vlk m k = mlk m k := rfl
theorem vput_is (m : List (Int × Value)) (k : Int) (v : Value) : vput m k v = mput m k v := rfl
end
end Go.Eng

namespace Go.Eng
open Go.RowKit Go.Syn Go.MapKept
set_option linter.unusedVariables false
set_option linter.unusedSimpArgs false
section
variable {C : Cfg} {ρ : Env} {pre : List Nat} {hx rest : HX} {L : Stack} {m m' : Mem} {ty : Nat} {ps : List (Nat × SV)} {t : Tree}
theorem node_vlen {mt kt et : TypeId} {xo : Operand} {ac : Go.Call} {r : SV} (vs : Vals) (hac : ac = { callee := .builtin .len, args := #[xo], argTypes := #[mt] }) (b : Nat) (mm : List (Int × Value)) (hx_ : ∀ w, hx.X w → VMap w b mm) (hmo : ∀ ids, envOf ρ ids ps xo = .map (some b))
    (ht : C.P.underlying mt = some (.map kt et)) (hr : ∀ ids, r.den (ρ.add vs) ids = .int .i64 (mm.length : Int)) (hl : mm.length ≤ 4611686018427387904) (hhp : m'.hp = m.hp) (hfit : hpFits m.c m.hp.length m.hp = true) (hc : (ρ.add vs).cnt = m'.c) (h1 : ∀ v, v ∈ vs.v → v.oneCell' = true)
    (h : t.holds C (ρ.add vs) pre hx L) : (Tree.gen (.call ac) ty ps m (some r) m' t).holds C ρ pre hx L := by
  subst hac
  refine node_gpure (V := .int .i64 (mm.length : Int)) vs (fun ids w hp hf => ?_) hr hhp hfit hc h1 h
  obtain ⟨es, clock, h1, h2, h3⟩ := hx_ w hf.x
  have hl2 : es.size = mm.length := by
    have := congrArg List.length h3
    rwa [List.length_map, List.length_map, Array.length_toList] at this
  have hg : goInt es.size = Value.int .i64 (mm.length : Int) := by
    unfold goInt
    rw [hl2]
  simp only [execOp, resolve, invoke, builtin, hmo, Sem.run_bind, Sem.run_pure, Result.andThen_ok, List.map_toArray, List.map_cons, List.map_nil]
  simp [Builtin.len_, run_underlying ht, MapKept.run_getObj_map h1, Result.andThen, hg]
end
end Go.Eng

namespace Go.Eng
open Go.RowKit Go.Syn Go.MapKept
set_option linter.unusedVariables false
set_option linter.unusedSimpArgs false
structure Tw (w : World) (sz e : Nat) (a : Option Addr) (n cap : Nat) (xs : List Value) : Prop where
  len : xs.length = n * sz
  le : n ≤ cap
  ex : cap ≠ 0 → ∃ (g off : Nat) (cur : List Value), a = some ⟨g, off * sz, none⟩ ∧ w.heap[g]? = some (.cells cur.toArray e (0, 0)) ∧ cap ≤ maxLen ∧ cur.length = (off + cap) * sz ∧ (cur.drop (off * sz)).take (n * sz) = xs
section
variable {P : Program}
end
section
variable {C : Cfg} {ρ : Env} {pre : List Nat} {hx hx' rest : HX} {L : Stack} {m m' : Mem} {ty : Nat} {ps : List (Nat × SV)} {t : Tree} {ids : List Nat} {w w' : World} {args : List SV} {r : SV}
end
end Go.Eng
namespace Go.Eng
open Go.RowKit Go.Syn Go.MapKept
set_option linter.unusedVariables false
set_option linter.unusedSimpArgs false
def Dj (xs : List HX) : Prop := ∀ (i j : Nat) (a b : HX), xs[i]? = some a → xs[j]? = some b → i ≠ j → ∀ k, a.F k → ¬ b.F k
theorem Dj.set {xs : List HX} (h : Dj xs) {i : Nat} {a a' : HX} (hi : xs[i]? = some a) (hF : ∀ k, a'.F k → a.F k ∨ ∀ b ∈ xs, ¬ b.F k) : Dj (xs.set i a') := by
  have key : ∀ (j : Nat) (b : HX), xs[j]? = some b → i ≠ j → ∀ k, a'.F k → ¬ b.F k := fun j b hj hij k hk hb => by
    rcases hF k hk with q | q
    · exact h i j a b hi hj hij k q hb
    · exact q b (List.mem_of_getElem? hj) hb
  intro p q x y hx hy hpq k hk hk2
  rw [List.getElem?_set] at hx hy
  split at hx
  · rename_i e
    subst e
    rw [if_neg hpq] at hy
    split at hx
    · cases hx
      exact key q y hy hpq k hk hk2
    · cases hx
  · rename_i e
    split at hy
    · rename_i e2
      subst e2
      split at hy
      · cases hy
        exact key p x hx e k hk2 hk
      · cases hy
    · exact h p q x y hx hy hpq k hk hk2
section
variable {C : Cfg} {ρ : Env} {pre : List Nat} {hx hx' rest h0 : HX} {L : Stack} {m m' : Mem} {ty : Nat} {ps : List (Nat × SV)} {t : Tree} {ids : List Nat} {w w' : World} {args : List SV} {r : SV} {f : Nat}
theorem node_touch {t0 : Nat} {cs0 cs' : List LV} {hp0 : List (Nat × List LV)} (AS : List Nat → Array Value) (Q : Vals → HX → Prop) (hhp : m.hp = (t0, cs0) :: hp0) (hhp' : m'.hp = (t0, cs') :: hp0) (hargs : ∀ ids, (args.map (SV.den ρ ids)).toArray = AS ids)
    (hcall : ∀ ids w, pre <+: ids → Facts C m ρ ids (rest.and h0) w → Calls C.P f (AS ids) w (fun e w' => ∃ vs h', Q vs h' ∧ e = .returned (r.den (ρ.add vs) ids) ∧ w'.heap[idAt ids 0]? = some (.cells (cellsDen (ρ.add vs) ids cs').toArray t0 (0, 0)) ∧ h'.X w' ∧ (∀ k, h'.F k → (h0.F k ∨ w.heap.size ≤ k) ∧ k < w'.heap.size) ∧ Chg (fun k => k = idAt ids 0 ∨ h0.F k) w w'))
    (hdis : ∀ k, h0.F k → ¬ rest.F k ∧ (C.W.heap.size ≤ k ∨ C.M k)) (hfit : hpFits m.c m.hp.length m.hp = true) (hc : ∀ vs h', Q vs h' → (ρ.add vs).cnt = m'.c ∧ ∀ v, v ∈ vs.v → v.oneCell' = true)
    (h : ∀ vs h', Q vs h' → (∀ k, h'.F k → ¬ rest.F k ∧ (C.W.heap.size ≤ k ∨ C.M k)) → t.holds C (ρ.add vs) pre (rest.and h') L) : (Tree.call f args m r m' t).holds C ρ pre (rest.and h0) L := by
  intro ids w hp hf
  rw [hargs]
  refine (hcall ids w hp hf).mono ?_
  rintro e w' ⟨vs, h', hQ, rfl, hb0, hX, hge, hch⟩
  have hm0 : idAt ids 0 ∈ ids := idAt_mem (ids := ids) (n := 0) (by rw [hf.len, hhp]; simp)
  have hadd : ∀ (cs : List LV) k ty', m.hp[k]? = some (ty', cs) → cellsDen (ρ.add vs) ids cs = cellsDen ρ ids cs := fun cs k ty' hk => cellsDen_add hf.cnt.cnt (List.prefix_refl _) hf.len (List.all_eq_true.1 hfit _ (List.mem_of_getElem? hk))
  refine ⟨vs, ids, rest.and h', rfl, List.prefix_refl _, ⟨by rw [hf.len, hhp, hhp']; rfl, hf.nod, fun k t2 cs2 hk => ?_, hf.own, ?_, ⟨rest.loc w w' hf.x.1 fun k hk => hch.block k (hf.sep k (.inl hk)).1 fun q => ?_, hX⟩, fun k hk => ?_, ⟨(hc _ _ hQ).1, fun v hv => ?_⟩⟩, holds_pre t hp (h vs h' hQ fun k hk => ?_)⟩
  · cases k with
    | zero =>
      rw [hhp'] at hk
      simp only [List.getElem?_cons_zero, Option.some.injEq, Prod.mk.injEq] at hk
      obtain ⟨rfl, rfl⟩ := hk
      exact hb0
    | succ k =>
      have hk2 : m.hp[k + 1]? = some (t2, cs2) := by rw [hhp]; rw [hhp'] at hk; exact hk
      have hlt : k + 1 < m.hp.length := by
        rcases Nat.lt_or_ge (k + 1) m.hp.length with q | q
        · exact q
        · rw [List.getElem?_eq_none q] at hk2; cases hk2
      have hmem := idAt_mem (ids := ids) (n := k + 1) (hf.len ▸ hlt)
      have hne : idAt ids (k + 1) ≠ idAt ids 0 := fun e => by
        have := idAt_inj hf.nod (by rw [hf.len]; exact hlt) (by rw [hf.len, hhp]; simp) e
        omega
      rw [hch.block _ (hf.id_lt hmem) (fun e2 => e2.elim hne fun q => (hf.sep _ (.inr q)).2 hmem), hf.blk (k + 1) t2 cs2 hk2, hadd cs2 _ _ hk2]
  · refine ⟨hch.os.trans hf.chg.os, hch.tape.trans hf.chg.tape, hch.output.trans hf.chg.output, Nat.le_trans hf.chg.size hch.size, fun k hk hM => ?_⟩
    rw [hch.block k (Nat.lt_of_lt_of_le hk hf.chg.size) (fun e => ?_)]
    · exact hf.chg.block k hk hM
    · rcases e with rfl | e
      · rcases hf.own _ hm0 with g | g
        · omega
        · exact hM g
      · rcases (hdis _ e).2 with g | g
        · omega
        · exact hM g
  · rcases q with rfl | q
    · exact (hf.sep _ (.inl hk)).2 hm0
    · exact (hdis k q).1 hk
  · rcases hk with hk | hk
    · exact ⟨Nat.lt_of_lt_of_le (hf.sep k (.inl hk)).1 hch.size, (hf.sep k (.inl hk)).2⟩
    · refine ⟨(hge k hk).2, fun hm => ?_⟩
      rcases (hge k hk).1 with q | q
      · exact (hf.sep k (.inr q)).2 hm
      · have := hf.id_lt hm; omega
  · simp only [Env.add, List.mem_append] at hv
    exact hv.elim (hf.cnt.one v) ((hc _ _ hQ).2 v)
  · rcases (hge k hk).1 with q | q
    · exact hdis k q
    · refine ⟨fun z => ?_, .inl (Nat.le_trans hf.chg.size q)⟩
      have := (hf.sep k (.inl z)).1
      omega
end
end Go.Eng

namespace Go.Proofs.Ytbedoemdjlollaa
open Go.Eng
end Go.Proofs.Ytbedoemdjlollaa

namespace Go.Eng
open Go.RowKit Go.Syn
set_option linter.unusedVariables false
section
variable {C : Cfg} {ρ : Env} {pre : List Nat} {hx : HX} {L : Stack} {m m' : Mem} {args : List SV} {r : SV} {t : Tree}
end
end Go.Eng
namespace Go.Proofs.Ytbedoemdjlollaa
open Go.ChangeShapes Go.WideShapes Go.ChangeAt Go.RowKit Go.Syn Go.Eng
set_option linter.unusedVariables false
theorem ints_blk {P : Program} {W w : World} {M : Nat → Prop} {R : Ending → World → Prop} {m : Mem} {ρ : Env} {ids : List Nat} {hx : HX} (hf : Facts ⟨P, W, M, R⟩ m ρ ids hx w) (n ty : Nat) (cs : List LV) (xs : List Int) (h : m.hp[n]? = some (ty, cs)) (hc : cellsDen ρ ids cs = xs.map (Value.int .i64)) (hl : xs.length ≤ 1000) (hx : ∀ x ∈ xs, I64 x) : Ints w (some ⟨idAt ids n, 0, none⟩) xs :=
  Ints.of_cells (by omega) hx (blk_cells (ty := ty) (by have := hf.blk n ty cs h; rw [hc] at this; exact this))
theorem at1 {α : Type} {l : List α} {k : Nat} {y : α} (h : l[k]? = some y) : ∀ (j : Nat) (u : α), [y][j]? = some u → l[k + j]? = some u := fun j u hj => by
  cases j with
  | zero => simp only [List.getElem?_cons_zero, Option.some.injEq] at hj; rw [← hj]; exact h
  | succ j => simp at hj
end Go.Proofs.Ytbedoemdjlollaa

namespace Go.Proofs.Ytbedoemdjlollaa
open Go.ChangeShapes Go.WideShapes Go.ChangeAt Go.RowKit Go.Syn Go.Eng
set_option linter.unusedVariables false
set_option linter.unusedSimpArgs false
set_option maxRecDepth 100000
theorem se_sm {l : List SE} {i : Nat} {e : SE} {a : Option Addr} {w : World} (H : Cells w a (secells l)) (h : l[i]? = some e) : a.isSome = true :=
  (flat_part se_len H h (o := 0) e.cells (fun j u hj => by rw [Nat.zero_add]; exact hj) (by simp [SE.cells])).1
theorem kp_sm {l : List KpD} {i : Nat} {k : KpD} {a : Option Addr} {w : World} (H : Cells w a (kcells l)) (h : l[i]? = some k) : a.isSome = true :=
  (flat_part kp_len H h (o := 0) k.cells (fun j u hj => by rw [Nat.zero_add]; exact hj) (by simp [KpD.cells])).1
theorem kp_all {l : List KpD} {k : KpD} (i : Nat) (h : l[i]? = some k) {a : Option Addr} {w : World} (H : Cells w a (kcells l)) : CellsAt w (.pointer (some (((a.getD ⟨0, 0, none⟩).add (i * 4)).add 0))) k.cells (fun _ => False) :=
  (flat_part kp_len H h (o := 0) k.cells (fun j u hj => by rw [Nat.zero_add]; exact hj) (by simp [KpD.cells])).2 _ (fun q => q)
theorem se_all {l : List SE} {e : SE} (i : Nat) (h : l[i]? = some e) {a : Option Addr} {w : World} (H : Cells w a (secells l)) : CellsAt w (.pointer (some (((a.getD ⟨0, 0, none⟩).add (i * 3)).add 0))) e.cells (fun _ => False) :=
  (flat_part se_len H h (o := 0) e.cells (fun j u hj => by rw [Nat.zero_add]; exact hj) (by simp [SE.cells])).2 _ (fun q => q)
def atV (t : List SsD) (no : Int) : Int := if hitI (nosT t) no then (posI (nosT t) no : Int) else -1
def AtI (es : List SE) (no : Int) (vs : Vals) (hx : HX) : Prop := ∃ k : Nat, k ≤ es.length ∧ (∀ (x : Nat) (e : SE), x < k → es[x]? = some e → e.s.no ≠ no) ∧ vs = ⟨[(k : Int)], [], [], [], []⟩ ∧ hx = HX.nil
theorem rat_any (a : Option Addr) (cap : Nat) (es : List SE) (no : Int) (w : World) (H : TbAt w a es) (hr : Rise (nosT (es.map SE.s))) (hl : es.length ≤ 4611686018427387904) : Calls Try.prog 80 #[.slice a es.length cap, .int .i64 no] w (PureAt w (.int .i64 (atV (es.map SE.s) no))) := by
  refine calls_at (tab_ok _) Try.func80 rfl tRAt (ρ := ⟨[no], [], [], [es.length, cap], [a]⟩) (ids := []) (hx := HX.nil) rfl (Facts.initP rfl oneNil) ?_
  obtain ⟨ks, ek⟩ : ∃ ks, ks = nosT (es.map SE.s) := ⟨_, rfl⟩
  have hk : ∀ {x : Nat} {e : SE}, es[x]? = some e → ks[x]? = some e.s.no := fun h => by rw [ek]; unfold nosT; rw [List.getElem?_map, List.getElem?_map, h]; rfl
  have hk2 : ∀ {x : Nat} {y : Int}, ks[x]? = some y → ∃ e, es[x]? = some e ∧ e.s.no = y := fun {x y} h => by
    rw [ek] at h; unfold nosT at h
    rw [List.getElem?_map, List.getElem?_map] at h
    cases h4 : es[x]? with
    | none => rw [h4] at h; cases h
    | some e => rw [h4] at h; simp only [Option.map_some, Option.some.injEq] at h; exact ⟨e, rfl, h⟩
  have hkl : ks.length = es.length := by rw [ek]; unfold nosT; rw [List.length_map, List.length_map]
  unfold atV
  rw [← ek] at hr ⊢
  refine loop_i (AtI es no) (fun vs => es.length - (vs.i.headD 0).toNat) (fun ids w2 hp hf => ⟨HX.nil, HXok.none _ _, 0, Nat.zero_le _, fun x e h => absurd h (Nat.not_lt_zero _), rfl, rfl⟩) ?_
  rintro vs hx' hcnt ⟨k, hkk, h1, rfl, rfl⟩
  by_cases hlt : k < es.length
  · refine br_T (decide ((k : Int) < (es.length : Int))) (by kernel_rfl) (decide_eq_true (by omega)) ?_
    obtain ⟨e, he⟩ : ∃ e, es[k]? = some e := ⟨_, List.getElem?_eq_getElem hlt⟩
    refine need_k (a.isSome = true ∧ (0 : Int) ≤ k ∧ (k : Int) < es.length) (by kernel_rfl) ⟨se_sm H.row he, by omega, by omega⟩ ?_
    refine node_ld0 (k := ⟨2, 0, 0, 2, 1⟩) ⟨[e.s.no], [], [], [], []⟩ (.pointer (some (((a.getD ⟨0, 0, none⟩).add (k * 3)).add 0))) [.int .i64 e.s.no] (by intros; kernel_rfl) (by intros; kernel_rfl) (se_key k e he (n := 0) rfl H.row) ⟨rfl, oneNil⟩ (by kernel_rfl) oneNil ?_
    by_cases hq : e.s.no = no
    · refine br_T (e.s.no == no) (by kernel_rfl) (by simpa using hq) ?_
      have hp : posI ks no = k := posI_of (by omega) (fun x y hx hy => by
        have := hr x k y no hx hy (by rw [← hq]; exact hk he); exact this) (fun x y hx hy => by
        rcases Nat.lt_or_ge k x with z | z
        · have := hr k x no y z (by rw [← hq]; exact hk he) hy; omega
        · have : x = k := by omega
          subst this; rw [hk he, hq] at hy; cases hy; exact Int.le_refl _)
      have hh : hitI ks no = true := by rw [hit_iff, hp, ← hq]; exact hk he
      rw [if_pos hh, hp]
      exact pure_done (by intros; kernel_rfl)
    · refine br_F (e.s.no == no) (by kernel_rfl) (by simpa using hq) ?_
      have hwk : IntKind.i64.wrap ((k : Int) + 1) = ((k + 1 : Nat) : Int) := by rw [wrap_i64 (by omega)]; omega
      refine again_V ⟨[((k + 1 : Nat) : Int)], [], [], [], []⟩ rfl (fun ids => Eq.trans (b := ⟨[IntKind.i64.wrap ((k : Int) + 1)], [], [], [], []⟩) (by kernel_rfl) (by rw [hwk])) HX.nil (fun w2 ids hf => HXok.none _ _) ⟨⟨k + 1, by omega, fun x y hx hy => ?_, rfl, rfl⟩, ?_⟩
      · rcases Nat.lt_or_ge x k with z | z
        · exact h1 x y z hy
        · have : x = k := by omega
          subst this; rw [he] at hy; cases hy; exact hq
      · show es.length - (((k + 1 : Nat) : Int)).toNat < es.length - ((k : Int)).toNat
        omega
  · refine br_F (decide ((k : Int) < (es.length : Int))) (by kernel_rfl) (decide_eq_false (by omega)) ?_
    have hh : ¬ hitI ks no = true := fun q => by
      obtain ⟨e, he, hno⟩ := hk2 (hit_iff.1 q)
      exact h1 _ e (by have := (List.getElem?_eq_some_iff.1 he).1; omega) he hno
    rw [if_neg hh]
    exact pure_done (by intros; kernel_rfl)
end Go.Proofs.Ytbedoemdjlollaa

namespace Go.Proofs.Ytbedoemdjlollaa
open Go.ChangeShapes Go.WideShapes Go.ChangeAt Go.RowKit Go.Syn Go.Eng
set_option linter.unusedVariables false
set_option linter.unusedSimpArgs false
set_option maxRecDepth 100000
def RvI (t : List SsD) (vs : Vals) (hx : HX) : Prop := ∃ (k : Nat) (last : Int), k ≤ t.length ∧ validS last (t.drop k) = validS 0 t ∧ ((k = 0 ∧ last = 0) ∨ ∃ s, 0 < k ∧ t[k - 1]? = some s ∧ last = s.no ∧ 1 ≤ last) ∧ vs = ⟨[(k : Int)], [], [], [], []⟩ ∧ hx = HX.nil
def RwI (l : List KpD) (ack : Int) (vs : Vals) (hx : HX) : Prop := ∃ (j : Nat) (seq : Int), j ≤ l.length ∧ validK seq (l.drop j) = validK ack l ∧ ((j = 0 ∧ seq = ack) ∨ ∃ p, 0 < j ∧ l[j - 1]? = some p ∧ seq = p.seq ∧ ack < seq) ∧ vs = ⟨[(j : Int)], [], [], [], []⟩ ∧ hx = HX.nil
def JfI (P : Prop) (vs : Vals) (hx : HX) : Prop := P ∧ vs = ⟨[], [], [], [], []⟩ ∧ hx = HX.nil
set_option maxHeartbeats 4000000 in
theorem rvalid_any (a : Option Addr) (cap : Nat) (es : List SE) (w : World) (H : TbAt w a es) : Calls Try.prog 78 #[.slice a es.length cap] w (PureAt w (.bool (validT (es.map SE.s)))) := by
  refine calls_at (tab_ok _) Try.func78 rfl tRValid (ρ := ⟨[], [], [], [es.length, cap], [a]⟩) (ids := []) (hx := HX.nil) rfl (Facts.initP rfl oneNil) ?_
  obtain ⟨t, et⟩ : ∃ t, t = es.map SE.s := ⟨_, rfl⟩
  rw [← et]
  have htl : t.length = es.length := by rw [et, List.length_map]
  have fin : validT t = false → ∀ {m : Mem} {ρ : Env} {pre : List Nat} {L : Stack}, (Tree.done (.lf (.bool (.lit false))) m).holds ⟨Try.prog, w, fun _ => False, PureAt w (.bool (validT t))⟩ ρ pre HX.nil L := fun h {m ρ pre L} => by
    rw [h]; exact pure_done (fun ids => rfl)
  by_cases hbig : es.length > 16
  · exact br_T (decide ((es.length : Int) > 16)) (by kernel_rfl) (decide_eq_true (by omega)) (fin (by unfold validT; rw [decide_eq_false (by omega), Bool.and_false]))
  refine br_F (decide ((es.length : Int) > 16)) (by kernel_rfl) (decide_eq_false (by omega)) ?_
  have h16 : validT t = validS 0 t := by unfold validT; rw [decide_eq_true (by omega), Bool.and_true]
  refine loop_i (RvI t) (fun vs => t.length - (vs.i.headD 0).toNat) (fun ids w2 hp hf => ⟨HX.nil, HXok.none _ _, 0, 0, Nat.zero_le _, rfl, .inl ⟨rfl, rfl⟩, rfl, rfl⟩) ?_
  rintro vs hx' hcnt ⟨k, last, hk, hv, hlast, rfl, rfl⟩
  by_cases hlt : k < es.length
  rotate_left
  · refine br_F (decide ((k : Int) < (es.length : Int))) (by kernel_rfl) (decide_eq_false (by omega)) ?_
    obtain rfl : k = t.length := by omega
    rw [List.drop_length] at hv
    rw [h16, ← hv]
    exact pure_done (fun ids => rfl)
  refine br_T (decide ((k : Int) < (es.length : Int))) (by kernel_rfl) (decide_eq_true (by omega)) ?_
  obtain ⟨e, he⟩ : ∃ e, es[k]? = some e := ⟨_, List.getElem?_eq_getElem hlt⟩
  have hem := List.mem_of_getElem? he
  have hts : t[k]? = some e.s := by rw [et, List.getElem?_map, he]; rfl
  have hdr : t.drop k = e.s :: t.drop (k + 1) := by
    obtain ⟨h1, h2⟩ := List.getElem?_eq_some_iff.1 hts
    rw [List.drop_eq_getElem_cons h1, h2]
  rw [hdr] at hv
  have hbad : (last < e.s.no ∧ e.s.no ≤ 1073741824 ∧ 0 ≤ e.s.ack ∧ e.s.ack ≤ 1099511627776 ∧ e.s.kept.length ≤ 8 → validK e.s.ack e.s.kept = false) → validT t = false := fun h => by
    rw [h16, ← hv]
    unfold validS
    by_cases hc : last < e.s.no ∧ e.s.no ≤ 1073741824 ∧ 0 ≤ e.s.ack ∧ e.s.ack ≤ 1099511627776 ∧ e.s.kept.length ≤ 8
    · rw [h hc, Bool.and_false, Bool.false_and]
    · rw [decide_eq_false hc, Bool.false_and, Bool.false_and]
  have hl0 : 0 ≤ last := by rcases hlast with ⟨_, h⟩ | ⟨s, _, _, _, h⟩ <;> omega
  refine need_k (a.isSome = true ∧ (0 : Int) ≤ k ∧ (k : Int) < es.length) (by kernel_rfl) ⟨se_sm H.row he, by omega, by omega⟩ ?_
  refine node_ld0 (k := ⟨1, 0, 0, 2, 1⟩) ⟨[e.s.no, e.s.ack], [], [], [e.s.kept.length, e.c], [e.a]⟩ (.pointer (some (((a.getD ⟨0, 0, none⟩).add (k * 3)).add 0))) e.cells (by intros; kernel_rfl) (by intros; kernel_rfl) (se_all k he H.row) ⟨rfl, oneNil⟩ (by kernel_rfl) oneNil ?_
  refine ⟨JfI (last < e.s.no ∧ e.s.no ≤ 1073741824 ∧ 0 ≤ e.s.ack ∧ e.s.ack ≤ 1099511627776 ∧ e.s.kept.length ≤ 8), ?_, ?_⟩
  · by_cases h1 : e.s.no < 1
    · exact br_T (decide (e.s.no < 1)) (by kernel_rfl) (decide_eq_true h1) (fin (hbad (fun q => by omega)))
    refine br_F (decide (e.s.no < 1)) (by kernel_rfl) (decide_eq_false h1) ?_
    by_cases h2 : e.s.no > 1073741824
    · exact br_T (decide (e.s.no > 1073741824)) (by kernel_rfl) (decide_eq_true h2) (fin (hbad (fun q => by omega)))
    refine br_F (decide (e.s.no > 1073741824)) (by kernel_rfl) (decide_eq_false h2) ?_
    have tail : last < e.s.no → ∀ {m1 m2 m3 m4 : Mem} {ρ : Env} {L : Stack} {es1 : Vec} {x y : IE} {n : Nat}, x.den ρ = e.s.ack → y.den ρ = e.s.ack → (IE.nat n).den ρ = (e.s.kept.length : Int) → lkup 9 L = some (JfI (last < e.s.no ∧ e.s.no ≤ 1073741824 ∧ 0 ≤ e.s.ack ∧ e.s.ack ≤ 1099511627776 ∧ e.s.kept.length ≤ 8)) → (∀ ids, es1.den ρ ids = ⟨[], [], [], [], []⟩) →
        (Tree.br (.cmp .lss x (.lit 0)) (.done (.lf (.bool (.lit false))) m1) (.br (.cmp .gtr y (.lit 1099511627776)) (.done (.lf (.bool (.lit false))) m2) (.br (.cmp .gtr (.nat n) (.lit 8)) (.done (.lf (.bool (.lit false))) m3) (.again 9 es1 m4)))).holds ⟨Try.prog, w, fun _ => False, PureAt w (.bool (validT t))⟩ ρ [] HX.nil L := fun hno {m1 m2 m3 m4 ρ L es1 x y n} ex ey en hL hes => by
      by_cases h3 : e.s.ack < 0
      · exact br_T (decide (e.s.ack < 0)) (by show decide (x.den ρ < 0) = _; rw [ex]) (decide_eq_true h3) (fin (hbad (fun q => by omega)))
      refine br_F (decide (e.s.ack < 0)) (by show decide (x.den ρ < 0) = _; rw [ex]) (decide_eq_false h3) ?_
      by_cases h4 : e.s.ack > 1099511627776
      · exact br_T (decide (e.s.ack > 1099511627776)) (by show decide (y.den ρ > 1099511627776) = _; rw [ey]) (decide_eq_true h4) (fin (hbad (fun q => by omega)))
      refine br_F (decide (e.s.ack > 1099511627776)) (by show decide (y.den ρ > 1099511627776) = _; rw [ey]) (decide_eq_false h4) ?_
      by_cases h5 : e.s.kept.length > 8
      · exact br_T (decide ((e.s.kept.length : Int) > 8)) (by show decide ((IE.nat n).den ρ > 8) = _; rw [en]) (decide_eq_true (by omega)) (fin (hbad (fun q => by omega)))
      refine br_F (decide ((e.s.kept.length : Int) > 8)) (by show decide ((IE.nat n).den ρ > 8) = _; rw [en]) (decide_eq_false (by omega)) ?_
      exact again_V ⟨[], [], [], [], []⟩ hL hes HX.nil (fun w2 ids hf => HXok.none _ _) ⟨by omega, rfl, rfl⟩
    by_cases hk0 : k = 0
    · refine br_F (decide ((k : Int) > 0)) (by kernel_rfl) (decide_eq_false (by omega)) ?_
      exact tail (by rcases hlast with ⟨_, h⟩ | ⟨s, h, _⟩ <;> omega) (by kernel_rfl) (by kernel_rfl) (by kernel_rfl) (by rfl) (by intros; kernel_rfl)
    · refine br_T (decide ((k : Int) > 0)) (by kernel_rfl) (decide_eq_true (by omega)) ?_
      obtain ⟨s, q1, q2, q3, q4⟩ : ∃ s, 0 < k ∧ t[k - 1]? = some s ∧ last = s.no ∧ 1 ≤ last := by
        rcases hlast with ⟨h, _⟩ | h
        · exact absurd h hk0
        · exact h
      obtain ⟨e0, he0⟩ : ∃ e0, es[k - 1]? = some e0 := ⟨_, List.getElem?_eq_getElem (by omega)⟩
      have hs0 : e0.s = s := by
        rw [et, List.getElem?_map, he0] at q2
        simpa using q2
      have hwk : IntKind.i64.wrap ((k : Int) - 1) = ((k - 1 : Nat) : Int) := by rw [wrap_i64 (by omega)]; omega
      refine need_k (a.isSome = true ∧ (0 : Int) ≤ IntKind.i64.wrap ((k : Int) - 1) ∧ IntKind.i64.wrap ((k : Int) - 1) < es.length) (by kernel_rfl) ⟨se_sm H.row he, by rw [hwk]; omega, by rw [hwk]; omega⟩ ?_
      refine node_ld0 (k := ⟨3, 0, 0, 4, 2⟩) ⟨[last], [], [], [], []⟩ (.pointer (some (((a.getD ⟨0, 0, none⟩).add ((IntKind.i64.wrap ((k : Int) - 1)).toNat * 3)).add 0))) [.int .i64 last] (by intros; kernel_rfl) (by intros; kernel_rfl) (by rw [hwk]; exact se_key (k - 1) e0 he0 (n := 0) (by rw [q3, ← hs0]; rfl) H.row) ⟨rfl, oneNil⟩ (by kernel_rfl) oneNil ?_
      by_cases h3 : e.s.no ≤ last
      · exact br_T (decide (e.s.no ≤ last)) (by kernel_rfl) (decide_eq_true h3) (fin (hbad (fun q => by omega)))
      refine br_F (decide (e.s.no ≤ last)) (by kernel_rfl) (decide_eq_false h3) ?_
      exact tail (by omega) (by kernel_rfl) (by kernel_rfl) (by kernel_rfl) (by rfl) (by intros; kernel_rfl)
  rintro vs hx' hcnt1 ⟨hc, rfl, rfl⟩
  obtain ⟨l, el⟩ : ∃ l, l = e.s.kept := ⟨_, rfl⟩
  rw [← el] at hbad hc
  refine holds_env (ρ' := ⟨[(k : Int), e.s.no, e.s.ack], [], [], [es.length, cap, l.length, e.c], [a, e.a]⟩) (by rw [el]; kernel_rfl) ?_
  refine loop_i (RwI l e.s.ack) (fun vs => l.length - (vs.i.headD 0).toNat) (fun ids w2 hp hf => ⟨HX.nil, HXok.none _ _, 0, e.s.ack, Nat.zero_le _, rfl, .inl ⟨rfl, rfl⟩, rfl, rfl⟩) ?_
  rintro vs hx' hcnt2 ⟨j, seq, hj, hv2, hseq, rfl, rfl⟩
  refine holds_env (ρ' := ⟨[(k : Int), e.s.no, e.s.ack, (j : Int)], [], [], [es.length, cap, l.length, e.c], [a, e.a]⟩) (by kernel_rfl) ?_
  by_cases hlt2 : j < l.length
  rotate_left
  · refine br_F (decide ((j : Int) < (l.length : Int))) (by kernel_rfl) (decide_eq_false (by omega)) ?_
    obtain rfl : j = l.length := by omega
    rw [List.drop_length] at hv2
    have hwk : IntKind.i64.wrap ((k : Int) + 1) = ((k + 1 : Nat) : Int) := by rw [wrap_i64 (by omega)]; omega
    refine again_V ⟨[((k + 1 : Nat) : Int)], [], [], [], []⟩ rfl (fun ids => Eq.trans (b := ⟨[IntKind.i64.wrap ((k : Int) + 1)], [], [], [], []⟩) (by kernel_rfl) (by rw [hwk])) HX.nil (fun w2 ids hf => HXok.none _ _) ⟨⟨k + 1, e.s.no, by omega, ?_, .inr ⟨e.s, by omega, by rw [Nat.add_sub_cancel]; exact hts, rfl, by omega⟩, rfl, rfl⟩, ?_⟩
    · rw [← hv]
      show _ = (decide _ && validK e.s.ack e.s.kept && validS e.s.no (t.drop (k + 1)))
      rw [← el, ← hv2, decide_eq_true hc]
      show _ = (true && true && _)
      rw [Bool.true_and, Bool.true_and]
    · show t.length - (((k + 1 : Nat) : Int)).toNat < t.length - ((k : Int)).toNat
      omega
  refine br_T (decide ((j : Int) < (l.length : Int))) (by kernel_rfl) (decide_eq_true (by omega)) ?_
  obtain ⟨p, hp⟩ : ∃ p, l[j]? = some p := ⟨_, List.getElem?_eq_getElem hlt2⟩
  have hdr2 : l.drop j = p :: l.drop (j + 1) := by
    obtain ⟨h1, h2⟩ := List.getElem?_eq_some_iff.1 hp
    rw [List.drop_eq_getElem_cons h1, h2]
  rw [hdr2] at hv2
  have hHl : Cells w e.a (kcells l) := by rw [el]; exact H.each e hem
  have hbad2 : ¬ (seq < p.seq ∧ p.seq ≤ 1099511627776 ∧ 1 ≤ p.kind ∧ p.kind ≤ 3) → validT t = false := fun h => hbad fun _ => by
    rw [← hv2]
    unfold validK
    rw [decide_eq_false h, Bool.false_and]
  have hsq : e.s.ack ≤ seq := by rcases hseq with ⟨_, h⟩ | ⟨q, _, _, _, h⟩ <;> omega
  have hwj : IntKind.i64.wrap ((j : Int) + 1) = ((j + 1 : Nat) : Int) := by rw [wrap_i64 (by omega)]; omega
  refine ⟨JfI (seq < p.seq ∧ p.seq ≤ 1099511627776 ∧ 1 ≤ p.kind ∧ p.kind ≤ 3), ?_, ?_⟩
  · refine need_k (e.a.isSome = true ∧ (0 : Int) ≤ j ∧ (j : Int) < l.length) (by kernel_rfl) ⟨kp_sm hHl hp, by omega, by omega⟩ ?_
    refine node_ld0 (k := ⟨4, 0, 0, 4, 2⟩) ⟨[p.seq, p.kind, p.re, p.im], [], [], [], []⟩ (.pointer (some (((e.a.getD ⟨0, 0, none⟩).add (j * 4)).add 0))) p.cells (by intros; kernel_rfl) (by intros; kernel_rfl) (kp_all j hp hHl) ⟨rfl, oneNil⟩ (by kernel_rfl) oneNil ?_
    by_cases g1 : p.seq ≤ e.s.ack
    · exact br_T (decide (p.seq ≤ e.s.ack)) (by kernel_rfl) (decide_eq_true g1) (fin (hbad2 (fun q => by omega)))
    refine br_F (decide (p.seq ≤ e.s.ack)) (by kernel_rfl) (decide_eq_false g1) ?_
    by_cases g2 : p.seq > 1099511627776
    · exact br_T (decide (p.seq > 1099511627776)) (by kernel_rfl) (decide_eq_true g2) (fin (hbad2 (fun q => by omega)))
    refine br_F (decide (p.seq > 1099511627776)) (by kernel_rfl) (decide_eq_false g2) ?_
    have tail : seq < p.seq → ∀ {m2 m3 m4 : Mem} {ρ : Env} {L : Stack} {es1 : Vec} {x y : IE}, x.den ρ = p.kind → y.den ρ = p.kind → lkup 15 L = some (JfI (seq < p.seq ∧ p.seq ≤ 1099511627776 ∧ 1 ≤ p.kind ∧ p.kind ≤ 3)) → (∀ ids, es1.den ρ ids = ⟨[], [], [], [], []⟩) →
        (Tree.br (.cmp .lss x (.lit 1)) (.done (.lf (.bool (.lit false))) m2) (.br (.cmp .gtr y (.lit 3)) (.done (.lf (.bool (.lit false))) m3) (.again 15 es1 m4))).holds ⟨Try.prog, w, fun _ => False, PureAt w (.bool (validT t))⟩ ρ [] HX.nil L := fun hno {m2 m3 m4 ρ L es1 x y} ex ey hL hes => by
      by_cases h3 : p.kind < 1
      · exact br_T (decide (p.kind < 1)) (by show decide (x.den ρ < 1) = _; rw [ex]) (decide_eq_true h3) (fin (hbad2 (fun q => by omega)))
      refine br_F (decide (p.kind < 1)) (by show decide (x.den ρ < 1) = _; rw [ex]) (decide_eq_false h3) ?_
      by_cases h4 : p.kind > 3
      · exact br_T (decide (p.kind > 3)) (by show decide (y.den ρ > 3) = _; rw [ey]) (decide_eq_true h4) (fin (hbad2 (fun q => by omega)))
      refine br_F (decide (p.kind > 3)) (by show decide (y.den ρ > 3) = _; rw [ey]) (decide_eq_false h4) ?_
      exact again_V ⟨[], [], [], [], []⟩ hL hes HX.nil (fun w2 ids hf => HXok.none _ _) ⟨by omega, rfl, rfl⟩
    by_cases hj0 : j = 0
    · refine br_F (decide ((j : Int) > 0)) (by kernel_rfl) (decide_eq_false (by omega)) ?_
      exact tail (by rcases hseq with ⟨_, h⟩ | ⟨s, h, _⟩ <;> omega) (by kernel_rfl) (by kernel_rfl) (by rfl) (by intros; kernel_rfl)
    · refine br_T (decide ((j : Int) > 0)) (by kernel_rfl) (decide_eq_true (by omega)) ?_
      obtain ⟨s, q1, q2, q3, q4⟩ : ∃ s, 0 < j ∧ l[j - 1]? = some s ∧ seq = s.seq ∧ e.s.ack < seq := by
        rcases hseq with ⟨h, _⟩ | h
        · exact absurd h hj0
        · exact h
      have hwk : IntKind.i64.wrap ((j : Int) - 1) = ((j - 1 : Nat) : Int) := by rw [wrap_i64 (by omega)]; omega
      refine need_k (e.a.isSome = true ∧ (0 : Int) ≤ IntKind.i64.wrap ((j : Int) - 1) ∧ IntKind.i64.wrap ((j : Int) - 1) < l.length) (by kernel_rfl) ⟨kp_sm hHl hp, by rw [hwk]; omega, by rw [hwk]; omega⟩ ?_
      refine node_ld0 (k := ⟨8, 0, 0, 4, 2⟩) ⟨[seq], [], [], [], []⟩ (.pointer (some (((e.a.getD ⟨0, 0, none⟩).add ((IntKind.i64.wrap ((j : Int) - 1)).toNat * 4)).add 0))) [.int .i64 seq] (by intros; kernel_rfl) (by intros; kernel_rfl) (by
        rw [hwk]
        exact (flat_part kp_len hHl q2 (o := 0) [.int .i64 seq] (fun z u hz => by cases z with | zero => rw [List.getElem?_cons_zero] at hz; cases hz; rw [q3]; rfl | succ z => simp at hz) (by simp)).2 _ (fun q => q)) ⟨rfl, oneNil⟩ (by kernel_rfl) oneNil ?_
      by_cases h3 : p.seq ≤ seq
      · exact br_T (decide (p.seq ≤ seq)) (by kernel_rfl) (decide_eq_true h3) (fin (hbad2 (fun q => by omega)))
      refine br_F (decide (p.seq ≤ seq)) (by kernel_rfl) (decide_eq_false h3) ?_
      exact tail (by omega) (by kernel_rfl) (by kernel_rfl) (by rfl) (by intros; kernel_rfl)
  rintro vs hx' hcnt3 ⟨hc2, rfl, rfl⟩
  refine again_V ⟨[((j + 1 : Nat) : Int)], [], [], [], []⟩ rfl (fun ids => Eq.trans (b := ⟨[IntKind.i64.wrap ((j : Int) + 1)], [], [], [], []⟩) (by kernel_rfl) (by rw [hwj])) HX.nil (fun w2 ids hf => HXok.none _ _) ⟨⟨j + 1, p.seq, by omega, ?_, .inr ⟨p, by omega, by rw [Nat.add_sub_cancel]; exact hp, rfl, by omega⟩, rfl, rfl⟩, ?_⟩
  · rw [← hv2]
    show _ = (decide _ && validK p.seq (l.drop (j + 1)))
    rw [decide_eq_true hc2, Bool.true_and]
  · show l.length - (((j + 1 : Nat) : Int)).toNat < l.length - ((j : Int)).toNat
    omega
end Go.Proofs.Ytbedoemdjlollaa

namespace Go.Proofs.Ytbedoemdjlollaa
open Go.ChangeShapes Go.WideShapes Go.ChangeAt Go.RowKit Go.Syn Go.Eng
set_option linter.unusedVariables false
set_option linter.unusedSimpArgs false
set_option maxRecDepth 100000
theorem Dj.snoc {a a' : Option Addr} {c c' : Nat} {ds : List SE} {e : SE} (h : Dj a c ds) (h1 : ∀ k, (kRow e).F k → ¬ (ksR ds).F k) (h2 : ∀ k, c' ≠ 0 → abk a' = some k → ¬ (ksR (ds ++ [e])).F k) : Dj a' c' (ds ++ [e]) := by
  have at_ : ∀ {j : Nat} {x : SE}, (ds ++ [e])[j]? = some x → ds[j]? = some x ∨ (j = ds.length ∧ x = e) := fun {j x} hx => by
    rw [List.getElem?_append] at hx
    split at hx
    · exact .inl hx
    · have h0 : j - ds.length < 1 := by
        rcases Nat.lt_or_ge (j - ds.length) 1 with z | z
        · exact z
        · rw [List.getElem?_eq_none (by simpa using z)] at hx; cases hx
      exact .inr ⟨by omega, List.mem_singleton.1 (List.mem_of_getElem? hx)⟩
  refine ⟨fun i j x y hij hx hy k hk1 hk2 => ?_, fun x hx k hk hF => h2 k hF.1 hF.2 ⟨x, hx, hk⟩⟩
  rcases at_ hx with hx2 | ⟨e1, e2⟩
  · rcases at_ hy with hy2 | ⟨e3, e4⟩
    · exact h.two i j x y hij hx2 hy2 k hk1 hk2
    · exact h1 k (e4 ▸ hk2) ⟨x, List.mem_of_getElem? hx2, hk1⟩
  · rcases at_ hy with hy2 | ⟨e3, e4⟩
    · exact h1 k (e2 ▸ hk1) ⟨y, List.mem_of_getElem? hy2, hk2⟩
    · exact hij (e1.trans e3.symm)
def CpI (W : World) (es : List SE) (vs : Vals) (hx : HX) : Prop := ∃ (k : Nat) (a1 : Option Addr) (c1 : Nat) (ds : List SE), k ≤ es.length ∧ ds.map SE.s = (es.take k).map SE.s ∧ ds.length = k ∧ Dj a1 c1 ds ∧ (∀ q, (tabR a1 c1 ds).F q → W.heap.size ≤ q) ∧ vs = ⟨[(k : Int)], [], [], [ds.length, c1], [a1]⟩ ∧ hx = tabR a1 c1 ds
set_option maxHeartbeats 2000000 in
theorem rcopy_any (a : Option Addr) (cap : Nat) (es : List SE) (w : World) (H : TbAt w a es) (hl : es.length * 40 ≤ 140737488351232) (hk : ∀ e ∈ es, e.s.kept.length * 32 ≤ 140737488351232) : Calls Try.prog 79 #[.slice a es.length cap] w (TbNew w id (es.map SE.s)) := by
  refine calls_at (tab_ok _) Try.func79 rfl tRCopy (ρ := ⟨[], [], [], [es.length, cap], [a]⟩) (ids := []) (hx := HX.nil) rfl (Facts.initP rfl oneNil) ?_
  have keep : ∀ {m : Mem} {ρ : Env} {ids : List Nat} {hx : HX} {w2 : World} {R : Ending → World → Prop}, Facts ⟨Try.prog, w, fun _ => False, R⟩ m ρ ids hx w2 → TbAt w2 a es := fun hf => H.keep (fun k hk => hf.chg.block k hk (fun q => q))
  refine loop_i (CpI w es) (fun vs => es.length - (vs.i.headD 0).toNat) (fun ids w2 hp hf => ⟨tabR (some ⟨idAt ids 0, 0, none⟩) 0 [], tab0 _ _ _, 0, _, 0, [], Nat.zero_le _, rfl, rfl, ⟨fun i j e e' _ h => by simp at h, fun e he => by cases he⟩, fun q hq => (((tab0 (some ⟨idAt ids 0, 0, none⟩) w2 ids).2 q hq).1 |> fun _ => by
    rcases hq with ⟨e, he, _⟩ | ⟨h, _⟩
    · simp at he
    · exact absurd rfl h), by kernel_rfl, rfl⟩) ?_
  rintro vs hx' hcnt ⟨k, a1, c1, ds, hk1, hdm, hdl, hdj, hnew, rfl, rfl⟩
  refine holds_env (ρ' := ⟨[(k : Int)], [], [], [es.length, cap, ds.length, c1], [a, a1]⟩) (by kernel_rfl) ?_
  by_cases hlt : k < es.length
  rotate_left
  · refine br_F (decide ((k : Int) < (es.length : Int))) (by kernel_rfl) (decide_eq_false (by omega)) ?_
    obtain rfl : k = es.length := by omega
    rw [List.take_length] at hdm
    intro ids w2 hp hf
    exact tb_fin hf hdm hdj hnew (by kernel_rfl)
  refine br_T (decide ((k : Int) < (es.length : Int))) (by kernel_rfl) (decide_eq_true (by omega)) ?_
  obtain ⟨e, he⟩ : ∃ e, es[k]? = some e := ⟨_, List.getElem?_eq_getElem hlt⟩
  have hem := List.mem_of_getElem? he
  have n1 : a.isSome = true ∧ (0 : Int) ≤ k ∧ (k : Int) < es.length := ⟨se_sm H.row he, by omega, by omega⟩
  refine need_k (a.isSome = true ∧ (0 : Int) ≤ k ∧ (k : Int) < es.length) (by kernel_rfl) n1 ?_
  refine node_ld0 (k := ⟨1, 0, 0, 4, 2⟩) ⟨[e.s.no, e.s.ack], [], [], [e.s.kept.length, e.c], [e.a]⟩ (.pointer (some (((a.getD ⟨0, 0, none⟩).add (k * 3)).add 0))) e.cells (by intros; kernel_rfl) (by intros; kernel_rfl) (se_all k he H.row) ⟨rfl, oneNil⟩ (by kernel_rfl) oneNil ?_
  refine need_k (a.isSome = true ∧ (0 : Int) ≤ k ∧ (k : Int) < es.length) (by kernel_rfl) n1 ?_
  refine node_ld0 (k := ⟨3, 0, 0, 6, 3⟩) ⟨[], [], [], [e.s.kept.length, e.c], [e.a]⟩ (.pointer (some (((a.getD ⟨0, 0, none⟩).add (k * 3)).add 2))) [.slice e.a e.s.kept.length e.c] (by intros; kernel_rfl) (by intros; kernel_rfl) (se_key k e he (n := 0) rfl H.row) ⟨rfl, oneNil⟩ (by kernel_rfl) oneNil ?_
  have hkl := hk e hem
  refine node_clones (sz := 4) (z := .agg #[.int .i64 0, .int .i64 0, .int .i64 0, .int .i64 0]) rfl Try.underlying139 info_kp rfl (by decide) 2 rfl (fun _ => e.a) e.s.kept.length e.c (kcells e.s.kept) (kcells_len _) (fun ids w2 hp hf => (keep hf).each e hem) (kp_one _) (by simp only [maxLen]; omega) (by omega) (by intros; kernel_rfl) (by intros; kernel_rfl) (by intros; kernel_rfl) (by kernel_rfl) (by kernel_rfl) (by intros; kernel_rfl) ?_
  intro a5 c5 hn5
  obtain ⟨e', ee'⟩ : ∃ e' : SE, e' = ⟨e.s, a5, c5⟩ := ⟨_, rfl⟩
  refine holds_eq (show _ = (ksR (ds ++ [e'])).and (HX.rw 3 141 a1 ds.length c1 (secells ds)) from by rw [ksR_snoc, HX.and_right_comm, ee']; rfl) ?_
  have hF5 : ∀ q, (kRow e').F q → w.heap.size ≤ q ∧ ¬ (tabR a1 c1 ds).F q := fun q hq => by rw [ee'] at hq; exact hn5 q hq.1 hq.2
  refine node_pushs (sz := 3) (z := .agg #[.int .i64 0, .int .i64 0, .slice none 0 0]) rfl Try.underlying52 info_se rfl (by decide) a1 ds.length c1 (secells ds) [.int .i64 e.s.no, .int .i64 e.s.ack, .slice a5 e.s.kept.length c5] 3 (by intros; kernel_rfl) (by intros; kernel_rfl) rfl (by intros; kernel_rfl) rfl (fun v hv => by simp at hv; rcases hv with rfl | rfl | rfl <;> rfl) (fun q h1 h2 hF => ?_) (fun q h1 h2 => .inl (hnew q (.inr ⟨h1, h2⟩))) (by simp only [maxLen]; omega) (by omega) (by intros; kernel_rfl) (by kernel_rfl) (by kernel_rfl) (by intros; kernel_rfl) ?_
  · obtain ⟨x, hx, hq⟩ := hF
    rcases List.mem_append.1 hx with hx | hx
    · exact hdj.tab x hx q hq ⟨h1, h2⟩
    · rw [List.mem_singleton.1 hx] at hq; exact (hF5 q hq).2 (.inr ⟨h1, h2⟩)
  intro a6 c6 hc6 hdis6 hwh6
  have hwk : IntKind.i64.wrap ((k : Int) + 1) = ((k + 1 : Nat) : Int) := by rw [wrap_i64 (by omega)]; omega
  have hsl : (ds ++ [e']).length = ds.length + 1 := by rw [List.length_append]; rfl
  have hsc : secells ds ++ [Value.int .i64 e.s.no, .int .i64 e.s.ack, .slice a5 e.s.kept.length c5] = secells (ds ++ [e']) := by
    unfold secells; rw [List.flatMap_append, List.flatMap_cons, List.flatMap_nil, List.append_nil, ee']; rfl
  refine holds_eq (show _ = tabR a6 c6 (ds ++ [e']) from by unfold tabR tRow; rw [hsl, hsc]) ?_
  have hge6 : ∀ q, abk a6 = some q → w.heap.size ≤ q := fun q hq => by
    rcases hwh6 with ⟨z1, z2⟩ | ⟨g, z1, z2, _⟩
    · exact hnew q (.inr ⟨z1, by rw [← z2]; exact hq⟩)
    · rw [z1] at hq; cases hq; exact z2
  refine again_V ⟨[((k + 1 : Nat) : Int)], [], [], [(ds ++ [e']).length, c6], [a6]⟩ rfl (fun ids => Eq.trans (b := ⟨[IntKind.i64.wrap ((k : Int) + 1)], [], [], [ds.length + 1, c6], [a6]⟩) (by kernel_rfl) (by rw [hwk, hsl])) _ (fun w2 ids hf => ⟨hf.x, hf.sep⟩) ⟨⟨k + 1, a6, c6, ds ++ [e'], by omega, ?_, by rw [hsl, hdl], hdj.snoc (fun q hq hF => (hF5 q hq).2 (.inl hF)) (fun q _ h2 => hdis6 q h2), ?_, rfl, rfl⟩, ?_⟩
  · rw [List.map_append, hdm, List.take_add_one, he, List.map_append, ee']; rfl
  · rintro q (⟨x, hx, hq⟩ | hq)
    · rcases List.mem_append.1 hx with hx | hx
      · exact hnew q (.inl ⟨x, hx, hq⟩)
      · rw [List.mem_singleton.1 hx] at hq; exact (hF5 q hq).1
    · exact hge6 q hq.2
  · show es.length - (((k + 1 : Nat) : Int)).toNat < es.length - ((k : Int)).toNat
    omega
end Go.Proofs.Ytbedoemdjlollaa

namespace Go.Proofs.Ytbedoemdjlollaa
open Go.Eng
abbrev tRReplym0 : Mem := ⟨[(141, [(tVi 0), (tVi 1), (tSl 0 0 1)]), (62, [(tLi 0), (tLi 0), (tLi 0)])], ⟨4, 0, 0, 2, 1⟩⟩
abbrev tRReplym1 : Mem := ⟨[(141, [(tVi 0), (tVi 1), (tSl 0 0 1)]), (62, [(tLi 0), (tLi 0), (tLi 0)])], ⟨5, 0, 0, 2, 1⟩⟩
set_option maxRecDepth 100000 in
theorem tRReply : (runF ⟨tt, fns, { loops := [(2, ⟨[(10, .int .i64)], []⟩)] }⟩ (Try.f81.body.getD .skip) Try.f81.results.toList (entry Try.f81.ntmps [.agg [.int .i64 (.var 0), .int .i64 (.var 1), .sl 0 (.var 0) (.var 1)], .lf (.int .i64 (.var 2))] [] ⟨3, 0, 0, 2, 1⟩)) =
  (.loop 2 ⟨[(.lit 0)], [], [], [], []⟩ ⟨[(141, [(tVi 0), (tVi 1), (tSl 0 0 1)]), (62, [(tLi 0), (tLi 0), (tLi 0)])], ⟨3, 0, 0, 2, 1⟩⟩ tRReplym0 (.br (.cmp .lss (.var 3) (.nat 0)) (.need (.inb 0 (.var 3) (.nat 0)) (.ld .false (.adr 0 (.var 3) 4 0) [(tVi 4)] tRReplym0 tRReplym1 (.br (.cmp .eql (.var 4) (.var 2)) (.need (.inb 0 (.var 3) (.nat 0)) (.ld .false (.adr 0 (.var 3) 4 1) [(tVi 5), (tVi 6), (tVi 7)] tRReplym1 ⟨[(141, [(tVi 0), (tVi 1), (tSl 0 0 1)]), (62, [(tLi 0), (tLi 0), (tLi 0)])], ⟨8, 0, 0, 2, 1⟩⟩ (.done (.tup [(.true, [(tVi 5), (tVi 6), (tVi 7)]), (.false, [(.bool (.lit .true))])]) ⟨[(141, [(tVi 0), (tVi 1), (tSl 0 0 1)]), (62, [(tVi 5), (tVi 6), (tVi 7)])], ⟨8, 0, 0, 2, 1⟩⟩))) (.again 2 ⟨[(.op .add .i64 (.var 3) (.lit 1))], [], [], [], []⟩ tRReplym1)))) (.done (.tup [(.true, [(tLi 0), (tLi 0), (tLi 0)]), (.false, [(.bool (.lit .false))])]) tRReplym0))) := by kernel_rfl
abbrev tRAskb0 : List LV := [(tVi 0), (tVi 1), (tVi 2), (tVi 3), (tVi 4), (tVi 5), (tVi 6), (tVi 7)]
abbrev tRAskm0 : Mem := ⟨[(43, tRAskb0), (62, [(tLi 0), (tLi 0), (tLi 0)]), (141, []), (141, [(tVi 11), (tVi 12), (tSl 4 8 9)]), (143, []), (143, [(tVi 15), (tVi 16), (tVi 17), (tVi 18)])], ⟨19, 0, 0, 14, 7⟩⟩
abbrev tRAskm1 : Mem := ⟨[(43, tRAskb0), (62, [(tLi 0), (tLi 0), (tLi 0)]), (141, []), (141, [(tVi 11), (tVi 12), (tSl 5 10 11)]), (143, [])], ⟨14, 0, 0, 12, 6⟩⟩
abbrev tRAskm2 : Mem := ⟨[(43, tRAskb0), (62, [(tLi 0), (tLi 0), (tLi 0)]), (141, []), (141, [(tVi 11), (tVi 12), (tSl 4 8 9)]), (143, [])], ⟨14, 0, 0, 12, 6⟩⟩
abbrev tRAskm3 : Mem := ⟨[(43, tRAskb0), (62, [(tLi 0), (tLi 0), (tLi 0)]), (141, []), (141, [(tVi 11), (tVi 12), (tSl 4 8 9)]), (143, [])], ⟨14, 0, 0, 14, 7⟩⟩
abbrev tRAskm4 : Mem := ⟨[(43, tRAskb0), (62, [(tLi 0), (tLi 0), (tLi 0)]), (141, []), (141, [(tVi 11), (tVi 12), (tSl 4 8 9)]), (143, [])], ⟨15, 0, 0, 12, 6⟩⟩
abbrev tRAskm5 : Mem := ⟨[(43, tRAskb0), (62, [(tLi 0), (tLi 0), (tLi 0)]), (141, []), (141, [(tVi 10), (tVi 11), (tSl 3 6 7)])], ⟨12, 2, 0, 10, 5⟩⟩
abbrev tRAskm6 : Mem := ⟨[(43, tRAskb0), (62, [(tLi 0), (tLi 0), (tLi 0)]), (141, []), (141, [(tVi 9), (tVi 10), (tSl 3 6 7)])], ⟨11, 0, 0, 8, 4⟩⟩
abbrev tRAskm7 : Mem := ⟨[(43, tRAskb0), (62, [(tLi 0), (tLi 0), (tLi 0)]), (141, []), (141, [(tVi 0), (tLi 0), .nilsl])], ⟨11, 1, 0, 6, 3⟩⟩
abbrev tRAskm8 : Mem := ⟨[(43, tRAskb0), (62, [(tLi 0), (tLi 0), (tLi 0)]), (141, []), (141, [(tVi 0), (tLi 0), .nilsl])], ⟨10, 1, 0, 6, 3⟩⟩
abbrev tRAskm9 : Mem := ⟨[(43, tRAskb0), (62, [(tLi 0), (tLi 0), (tLi 0)]), (141, [])], ⟨10, 1, 0, 4, 2⟩⟩
abbrev tRAskm10 : Mem := ⟨[(43, tRAskb0), (62, [(tLi 0), (tLi 0), (tLi 0)]), (141, [])], ⟨10, 2, 0, 6, 3⟩⟩
abbrev tRAskm11 : Mem := ⟨[(43, tRAskb0), (62, [(tLi 0), (tLi 0), (tLi 0)]), (141, [])], ⟨11, 1, 0, 4, 2⟩⟩
abbrev tRAskm12 : Mem := ⟨[(43, tRAskb0), (62, [(tLi 0), (tLi 0), (tLi 0)]), (141, [])], ⟨8, 0, 0, 2, 1⟩⟩
abbrev tRAskm13 : Mem := ⟨[(43, tRAskb0), (62, [(tLi 0), (tLi 0), (tLi 0)]), (141, [])], ⟨8, 0, 0, 4, 2⟩⟩
abbrev tRAskm14 : Mem := ⟨[(43, tRAskb0), (62, [(tLi 0), (tLi 0), (tLi 0)]), (141, [])], ⟨9, 0, 0, 2, 1⟩⟩
abbrev tRAskm15 : Mem := ⟨[(43, tRAskb0), (62, [(tLi 0), (tLi 0), (tLi 0)]), (141, [])], ⟨9, 0, 0, 4, 2⟩⟩
abbrev tRAskm16 : Mem := ⟨[(43, tRAskb0), (62, [(tLi 0), (tLi 0), (tLi 0)]), (141, [])], ⟨8, 0, 0, 6, 3⟩⟩
abbrev tRAskm17 : Mem := ⟨[(43, tRAskb0), (62, [(tLi 0), (tLi 0), (tLi 0)]), (141, [])], ⟨9, 0, 0, 6, 3⟩⟩
set_option maxRecDepth 100000 in
theorem tRAsk : (runF ⟨tt, fns, { cur := [1, 2, 3, 4, 5, 6, 7, 8, 9, 10, 11, 12], joins := [(12, ⟨[(7, .sl), (8, .bool)], []⟩), (17, ⟨[(7, .sl)], []⟩), (22, ⟨[], [3]⟩), (28, ⟨[(12, .sl)], []⟩)], loops := [(7, ⟨[(30, .int .i64), (7, .sl), (8, .bool)], []⟩), (24, ⟨[(92, .int .i64), (12, .sl)], []⟩)] }⟩ (Try.f59.body.getD .skip) Try.f59.results.toList (entry Try.f59.ntmps [.lf (.sl 0 (.var 0) (.var 1)), .agg [.int .i64 (.var 0), .int .i64 (.var 1), .int .i64 (.var 2), .int .i64 (.var 3), .int .i64 (.var 4), .int .i64 (.var 5), .int .i64 (.var 6), .int .i64 (.var 7)]] [] ⟨8, 0, 0, 2, 1⟩)) =
  (.join 17 tRAskm12 tRAskm13 (.call 80 [(.lf (tSl 0 0 1)), (.lf (tVi 0))] tRAskm12 (.lf (tVi 8)) tRAskm14 (.br (.cmp .lss (.var 8) (.lit 0)) (.br (.cmp .geq (.nat 0) (.lit 16)) (.call 79 [(.lf (tSl 0 0 1))] tRAskm14 (.lf (tSl 1 2 3)) tRAskm15 (.done (.tup [(.false, [(tSl 1 2 3)]), (.true, [(tLi 5), (tLi 0), (tLi 0)]), (.false, [(.bool (.lit .true))])]) ⟨[(43, tRAskb0), (62, [(tLi 5), (tLi 0), (tLi 0)]), (141, [])], ⟨9, 0, 0, 4, 2⟩⟩)) (.loop 7 ⟨[(.lit 0)], [(.lit .false)], [], [(.lit 0), (.lit 0)], [(.nm 2 0)]⟩ tRAskm14 tRAskm9 (.br (.cmp .lss (.var 9) (.nat 0)) (.join 12 tRAskm9 tRAskm10 (.br (.not (.var 0)) (.need (.inb 0 (.var 9) (.nat 0)) (.ld .false (.adr 0 (.var 9) 3 0) [(tVi 10)] tRAskm9 tRAskm11 (.br (.cmp .gtr (.var 10) (.var 0)) (.gen (.call ⟨(.builtin .append), #[(.tmp 45), (.tmp 49)], #[52, 52]⟩) 52 [(45, (.lf (tSl 1 2 3))), (49, (.lf (.nsl 3 0 1 1)))] ⟨[(43, tRAskb0), (62, [(tLi 0), (tLi 0), (tLi 0)]), (141, []), (141, [(tVi 0), (tLi 0), .nilsl])], ⟨11, 1, 0, 4, 2⟩⟩ (.some (.lf (tSl 2 4 5))) tRAskm7 (.again 12 ⟨[], [(.lit .true)], [], [(.var 4), (.var 5)], [(.var 2)]⟩ tRAskm7)) (.again 12 ⟨[], [(.var 0)], [], [(.var 2), (.var 3)], [(.var 1)]⟩ tRAskm11)))) (.again 12 ⟨[], [(.var 0)], [], [(.var 2), (.var 3)], [(.var 1)]⟩ tRAskm9)) (.need (.inb 0 (.var 9) (.nat 0)) (.ld .false (.adr 0 (.var 9) 3 0) [(tVi 10), (tVi 11), (tSl 3 6 7)] tRAskm10 ⟨[(43, tRAskb0), (62, [(tLi 0), (tLi 0), (tLi 0)]), (141, [])], ⟨12, 2, 0, 8, 4⟩⟩ (.gen (.call ⟨(.builtin .append), #[(.tmp 51), (.tmp 56)], #[52, 52]⟩) 52 [(51, (.lf (tSl 2 4 5))), (56, (.lf (.nsl 3 0 1 1)))] ⟨[(43, tRAskb0), (62, [(tLi 0), (tLi 0), (tLi 0)]), (141, []), (141, [(tVi 10), (tVi 11), (tSl 3 6 7)])], ⟨12, 2, 0, 8, 4⟩⟩ (.some (.lf (tSl 4 8 9))) tRAskm5 (.again 7 ⟨[(.op .add .i64 (.var 9) (.lit 1))], [(.var 1)], [], [(.var 8), (.var 9)], [(.var 4)]⟩ tRAskm5))))) (.br (.not (.var 0)) (.gen (.call ⟨(.builtin .append), #[(.tmp 61), (.tmp 65)], #[52, 52]⟩) 52 [(61, (.lf (tSl 1 2 3))), (65, (.lf (.nsl 3 0 1 1)))] ⟨[(43, tRAskb0), (62, [(tLi 0), (tLi 0), (tLi 0)]), (141, []), (141, [(tVi 0), (tLi 0), .nilsl])], ⟨10, 1, 0, 4, 2⟩⟩ (.some (.lf (tSl 2 4 5))) tRAskm8 (.again 17 ⟨[], [], [], [(.var 4), (.var 5)], [(.var 2)]⟩ tRAskm8)) (.again 17 ⟨[], [], [], [(.var 2), (.var 3)], [(.var 1)]⟩ tRAskm9))))) (.gen (.call ⟨(.builtin .append), #[(.tmp 67), (.tmp 68)], #[52, 52]⟩) 52 [(67, (.lf (.nsl 2 0 0 0))), (68, (.lf (tSl 0 0 1)))] tRAskm14 (.some (.lf (tSl 1 2 3))) tRAskm15 (.again 17 ⟨[], [], [], [(.var 2), (.var 3)], [(.var 1)]⟩ tRAskm15)))) (.call 79 [(.lf (tSl 1 2 3))] tRAskm13 (.lf (tSl 2 4 5)) tRAskm16 (.call 80 [(.lf (tSl 2 4 5)), (.lf (tVi 0))] tRAskm16 (.lf (tVi 8)) tRAskm17 (.need (.inb 2 (.var 8) (.nat 4)) (.ld .true (.adr 2 (.var 8) 3 0) [(tVi 9), (tVi 10), (tSl 3 6 7)] tRAskm17 ⟨[(43, tRAskb0), (62, [(tLi 0), (tLi 0), (tLi 0)]), (141, [])], ⟨11, 0, 0, 8, 4⟩⟩ (.join 22 tRAskm6 ⟨[(43, tRAskb0), (62, [(tLi 0), (tLi 0), (tLi 0)]), (141, []), (141, [(tVi 11), (tVi 12), (tSl 4 8 9)])], ⟨13, 0, 0, 10, 5⟩⟩ (.br (.cmp .gtr (.var 2) (.var 10)) (.again 22 ⟨[(.var 9), (.var 2)], [], [], [(.var 6), (.var 7)], [(.var 3)]⟩ ⟨[(43, tRAskb0), (62, [(tLi 0), (tLi 0), (tLi 0)]), (141, []), (141, [(tVi 9), (tVi 2), (tSl 3 6 7)])], ⟨11, 0, 0, 8, 4⟩⟩) (.again 22 ⟨[(.var 9), (.var 10)], [], [], [(.var 6), (.var 7)], [(.var 3)]⟩ tRAskm6)) (.loop 24 ⟨[(.lit 0)], [], [], [(.lit 0), (.lit 0)], [(.nm 4 0)]⟩ ⟨[(43, tRAskb0), (62, [(tLi 0), (tLi 0), (tLi 0)]), (141, []), (141, [(tVi 11), (tVi 12), (tSl 4 8 9)]), (143, [])], ⟨13, 0, 0, 10, 5⟩⟩ tRAskm2 (.br (.cmp .lss (.var 13) (.nat 8)) (.join 28 tRAskm2 tRAskm3 (.need (.inb 4 (.var 13) (.nat 8)) (.ld .true (.adr 4 (.var 13) 4 0) [(tVi 14)] tRAskm2 tRAskm4 (.br (.cmp .gtr (.var 14) (.var 12)) (.need (.inb 4 (.var 13) (.nat 8)) (.ld .true (.adr 4 (.var 13) 4 0) [(tVi 15), (tVi 16), (tVi 17), (tVi 18)] tRAskm4 ⟨[(43, tRAskb0), (62, [(tLi 0), (tLi 0), (tLi 0)]), (141, []), (141, [(tVi 11), (tVi 12), (tSl 4 8 9)]), (143, [])], ⟨19, 0, 0, 12, 6⟩⟩ (.gen (.call ⟨(.builtin .append), #[(.tmp 104), (.tmp 110)], #[139, 139]⟩) 139 [(104, (.lf (tSl 5 10 11))), (110, (.lf (.nsl 5 0 1 1)))] ⟨[(43, tRAskb0), (62, [(tLi 0), (tLi 0), (tLi 0)]), (141, []), (141, [(tVi 11), (tVi 12), (tSl 4 8 9)]), (143, []), (143, [(tVi 15), (tVi 16), (tVi 17), (tVi 18)])], ⟨19, 0, 0, 12, 6⟩⟩ (.some (.lf (tSl 6 12 13))) tRAskm0 (.again 28 ⟨[], [], [], [(.var 12), (.var 13)], [(.var 6)]⟩ tRAskm0)))) (.again 28 ⟨[], [], [], [(.var 10), (.var 11)], [(.var 5)]⟩ tRAskm4)))) (.again 24 ⟨[(.op .add .i64 (.var 13) (.lit 1))], [], [], [(.var 12), (.var 13)], [(.var 6)]⟩ tRAskm3)) (.need (.inb 2 (.var 8) (.nat 4)) (.gen (.store 141 (.tmp 118) (.tmp 117)) 0 [(118, (.lf (.adr 2 (.var 8) 3 0))), (117, (.agg [(tVi 11), (tVi 12), (tSl 5 10 11)]))] tRAskm1 .none tRAskm1 (.br (.cmp .leq (.var 1) (.var 12)) (.done (.tup [(.false, [(tSl 2 4 5)]), (.true, [(tLi 4), (tLi 0), (tLi 0)]), (.false, [(.bool (.lit .true))])]) ⟨[(43, tRAskb0), (62, [(tLi 4), (tLi 0), (tLi 0)]), (141, []), (141, [(tVi 11), (tVi 12), (tSl 5 10 11)]), (143, [])], ⟨14, 0, 0, 12, 6⟩⟩) (.call 81 [(.agg [(tVi 11), (tVi 12), (tSl 5 10 11)]), (.lf (tVi 1))] tRAskm1 (.tup [(.true, [(tVi 14), (tVi 15), (tVi 16)]), (.false, [(.bool (.var 0))])]) ⟨[(43, tRAskb0), (62, [(tLi 0), (tLi 0), (tLi 0)]), (141, []), (141, [(tVi 11), (tVi 12), (tSl 5 10 11)]), (143, [])], ⟨17, 1, 0, 12, 6⟩⟩ (.br (.var 0) (.done (.tup [(.false, [(tSl 2 4 5)]), (.true, [(tVi 14), (tVi 15), (tVi 16)]), (.false, [(.bool (.lit .true))])]) ⟨[(43, tRAskb0), (62, [(tVi 14), (tVi 15), (tVi 16)]), (141, []), (141, [(tVi 11), (tVi 12), (tSl 5 10 11)]), (143, []), (62, [(tVi 14), (tVi 15), (tVi 16)])], ⟨17, 1, 0, 12, 6⟩⟩) (.br (.cmp .geq (.nat 10) (.lit 8)) (.done (.tup [(.false, [(tSl 2 4 5)]), (.true, [(tLi 6), (tLi 0), (tLi 0)]), (.false, [(.bool (.lit .true))])]) ⟨[(43, tRAskb0), (62, [(tLi 6), (tLi 0), (tLi 0)]), (141, []), (141, [(tVi 11), (tVi 12), (tSl 5 10 11)]), (143, []), (62, [(tVi 14), (tVi 15), (tVi 16)])], ⟨17, 1, 0, 12, 6⟩⟩) (.done (.tup [(.false, [(tSl 2 4 5)]), (.true, [(tLi 0), (tLi 0), (tLi 0)]), (.false, [(.bool (.lit .false))])]) ⟨[(43, tRAskb0), (62, [(tLi 0), (tLi 0), (tLi 0)]), (141, []), (141, [(tVi 11), (tVi 12), (tSl 5 10 11)]), (143, []), (62, [(tVi 14), (tVi 15), (tVi 16)])], ⟨17, 1, 0, 12, 6⟩⟩))))))))))))))) := by kernel_rfl
abbrev tRKeepb0 : List LV := [(tVi 0), (tVi 1), (tVi 2), (tVi 3), (tVi 4), (tVi 5), (tVi 6), (tVi 7)]
abbrev tRKeepm0 : Mem := ⟨[(43, tRKeepb0), (62, [(tVi 8), (tVi 9), (tVi 10)]), (62, [(tVi 14), (tVi 15), (tVi 16)]), (143, []), (143, [(tVi 19), (tVi 20), (tVi 21), (tVi 22)])], ⟨23, 3, 0, 16, 8⟩⟩
abbrev tRKeepm1 : Mem := ⟨[(43, tRKeepb0), (62, [(tVi 8), (tVi 9), (tVi 10)]), (62, [(tVi 14), (tVi 15), (tVi 16)]), (143, []), (143, [(tVi 19), (tVi 20), (tVi 21), (tVi 22)])], ⟨23, 3, 0, 18, 9⟩⟩
abbrev tRKeepm2 : Mem := ⟨[(43, tRKeepb0), (62, [(tVi 8), (tVi 9), (tVi 10)]), (62, [(tVi 14), (tVi 15), (tVi 16)]), (143, []), (143, [(tVi 1), (tVi 8), (tVi 9), (tVi 10)])], ⟨20, 2, 0, 14, 7⟩⟩
abbrev tRKeepm3 : Mem := ⟨[(43, tRKeepb0), (62, [(tVi 8), (tVi 9), (tVi 10)]), (62, [(tVi 14), (tVi 15), (tVi 16)]), (143, []), (143, [(tVi 1), (tVi 8), (tVi 9), (tVi 10)])], ⟨20, 2, 0, 16, 8⟩⟩
abbrev tRKeepm4 : Mem := ⟨[(43, tRKeepb0), (62, [(tVi 8), (tVi 9), (tVi 10)]), (62, [(tVi 14), (tVi 15), (tVi 16)]), (143, []), (143, [(tVi 1), (tVi 8), (tVi 9), (tVi 10)])], ⟨19, 2, 0, 12, 6⟩⟩
abbrev tRKeepm5 : Mem := ⟨[(43, tRKeepb0), (62, [(tVi 8), (tVi 9), (tVi 10)]), (62, [(tVi 14), (tVi 15), (tVi 16)]), (143, []), (143, [(tVi 1), (tVi 8), (tVi 9), (tVi 10)])], ⟨19, 2, 0, 14, 7⟩⟩
abbrev tRKeepm6 : Mem := ⟨[(43, tRKeepb0), (62, [(tVi 8), (tVi 9), (tVi 10)]), (62, [(tVi 14), (tVi 15), (tVi 16)]), (143, [])], ⟨18, 1, 0, 10, 5⟩⟩
abbrev tRKeepm7 : Mem := ⟨[(43, tRKeepb0), (62, [(tVi 8), (tVi 9), (tVi 10)]), (62, [(tVi 14), (tVi 15), (tVi 16)]), (143, [])], ⟨19, 2, 0, 12, 6⟩⟩
abbrev tRKeepm8 : Mem := ⟨[(43, tRKeepb0), (62, [(tVi 8), (tVi 9), (tVi 10)]), (62, [(tVi 14), (tVi 15), (tVi 16)]), (143, [])], ⟨19, 3, 0, 14, 7⟩⟩
abbrev tRKeepm9 : Mem := ⟨[(43, tRKeepb0), (62, [(tVi 8), (tVi 9), (tVi 10)]), (62, [(tVi 14), (tVi 15), (tVi 16)]), (143, [])], ⟨19, 2, 0, 14, 7⟩⟩
abbrev tRKeepm10 : Mem := ⟨[(43, tRKeepb0), (62, [(tVi 8), (tVi 9), (tVi 10)]), (62, [(tVi 14), (tVi 15), (tVi 16)]), (143, [])], ⟨20, 2, 0, 14, 7⟩⟩
abbrev tRKeepm11 : Mem := ⟨[(43, tRKeepb0), (62, [(tVi 8), (tVi 9), (tVi 10)]), (62, [(tVi 14), (tVi 15), (tVi 16)]), (143, [])], ⟨19, 3, 0, 16, 8⟩⟩
abbrev tRKeepm12 : Mem := ⟨[(43, tRKeepb0), (62, [(tVi 8), (tVi 9), (tVi 10)]), (62, [(tVi 14), (tVi 15), (tVi 16)]), (143, [])], ⟨23, 3, 0, 16, 8⟩⟩
abbrev tRKeepm13 : Mem := ⟨[(43, tRKeepb0), (62, [(tVi 8), (tVi 9), (tVi 10)]), (62, [(tVi 14), (tVi 15), (tVi 16)]), (143, [])], ⟨18, 1, 0, 8, 4⟩⟩
abbrev tRKeepm14 : Mem := ⟨[(43, tRKeepb0), (62, [(tVi 8), (tVi 9), (tVi 10)]), (62, [(tVi 14), (tVi 15), (tVi 16)])], ⟨17, 1, 0, 6, 3⟩⟩
abbrev tRKeepm15 : Mem := ⟨[(43, tRKeepb0), (62, [(tVi 8), (tVi 9), (tVi 10)]), (62, [(tVi 14), (tVi 15), (tVi 16)])], ⟨18, 1, 0, 6, 3⟩⟩
abbrev tRKeepm16 : Mem := ⟨[(43, tRKeepb0), (62, [(tVi 8), (tVi 9), (tVi 10)]), (62, [(tVi 14), (tVi 15), (tVi 16)])], ⟨18, 1, 0, 8, 4⟩⟩
abbrev tRKeepm17 : Mem := ⟨[(43, tRKeepb0), (62, [(tVi 8), (tVi 9), (tVi 10)]), (62, [(tLi 0), (tLi 0), (tLi 0)])], ⟨14, 0, 0, 6, 3⟩⟩
abbrev tRKeepm18 : Mem := ⟨[(43, tRKeepb0), (62, [(tVi 8), (tVi 9), (tVi 10)]), (62, [(tLi 0), (tLi 0), (tLi 0)])], ⟨17, 1, 0, 6, 3⟩⟩
abbrev tRKeepm19 : Mem := ⟨[(43, tRKeepb0), (62, [(tVi 8), (tVi 9), (tVi 10)])], ⟨11, 0, 0, 4, 2⟩⟩
abbrev tRKeepm20 : Mem := ⟨[(43, tRKeepb0), (62, [(tVi 8), (tVi 9), (tVi 10)])], ⟨12, 0, 0, 4, 2⟩⟩
abbrev tRKeepm21 : Mem := ⟨[(43, tRKeepb0), (62, [(tVi 8), (tVi 9), (tVi 10)])], ⟨14, 0, 0, 6, 3⟩⟩
abbrev tRKeept1 : Tree := (.br (.var 0) (.done (.lf (tSl 1 2 3)) tRKeepm14) (.need (.inb 1 (.var 11) (.nat 2)) (.ld .true (.adr 1 (.var 11) 3 1) [(tVi 17)] tRKeepm14 tRKeepm15 (.br (.cmp .leq (.var 1) (.var 17)) (.done (.lf (tSl 1 2 3)) tRKeepm15) (.need (.inb 1 (.var 11) (.nat 2)) (.ld .true (.adr 1 (.var 11) 3 2) [(tSl 3 6 7)] tRKeepm15 tRKeepm16 (.br (.cmp .geq (.nat 6) (.lit 8)) (.done (.lf (tSl 1 2 3)) tRKeepm16) (.need (.inb 1 (.var 11) (.nat 2)) (.ld .true (.adr 1 (.var 11) 3 2) [(tSl 4 8 9)] tRKeepm13 tRKeepm6 (.loop 11 ⟨[(.lit 0)], [(.lit .false)], [], [(.lit 0), (.lit 0)], [(.nm 3 0)]⟩ tRKeepm6 tRKeepm7 (.br (.cmp .lss (.var 18) (.nat 8)) (.join 16 tRKeepm7 tRKeepm8 (.br (.not (.var 1)) (.need (.inb 1 (.var 11) (.nat 2)) (.ld .true (.adr 1 (.var 11) 3 2) [(tSl 6 12 13)] tRKeepm7 tRKeepm9 (.need (.inb 6 (.var 18) (.nat 12)) (.ld .true (.adr 6 (.var 18) 4 0) [(tVi 19)] tRKeepm9 tRKeepm10 (.br (.cmp .gtr (.var 19) (.var 1)) (.gen (.call ⟨(.builtin .append), #[(.tmp 80), (.tmp 85)], #[139, 139]⟩) 139 [(80, (.lf (tSl 5 10 11))), (85, (.lf (.nsl 4 0 1 1)))] tRKeepm2 (.some (.lf (tSl 7 14 15))) tRKeepm3 (.again 16 ⟨[], [(.lit .true)], [], [(.var 14), (.var 15)], [(.var 7)]⟩ tRKeepm3)) (.again 16 ⟨[], [(.var 1)], [], [(.var 10), (.var 11)], [(.var 5)]⟩ tRKeepm10)))))) (.again 16 ⟨[], [(.var 1)], [], [(.var 10), (.var 11)], [(.var 5)]⟩ tRKeepm7)) (.need (.inb 1 (.var 11) (.nat 2)) (.ld .true (.adr 1 (.var 11) 3 2) [(tSl 7 14 15)] tRKeepm8 tRKeepm11 (.need (.inb 7 (.var 18) (.nat 14)) (.ld .true (.adr 7 (.var 18) 4 0) [(tVi 19), (tVi 20), (tVi 21), (tVi 22)] tRKeepm11 tRKeepm12 (.gen (.call ⟨(.builtin .append), #[(.tmp 87), (.tmp 96)], #[139, 139]⟩) 139 [(87, (.lf (tSl 6 12 13))), (96, (.lf (.nsl 4 0 1 1)))] tRKeepm0 (.some (.lf (tSl 8 16 17))) tRKeepm1 (.again 11 ⟨[(.op .add .i64 (.var 18) (.lit 1))], [(.var 2)], [], [(.var 16), (.var 17)], [(.var 8)]⟩ tRKeepm1))))))) (.join 20 tRKeepm7 tRKeepm9 (.br (.not (.var 1)) (.gen (.call ⟨(.builtin .append), #[(.tmp 101), (.tmp 106)], #[139, 139]⟩) 139 [(101, (.lf (tSl 5 10 11))), (106, (.lf (.nsl 4 0 1 1)))] tRKeepm4 (.some (.lf (tSl 6 12 13))) tRKeepm5 (.again 20 ⟨[], [], [], [(.var 12), (.var 13)], [(.var 6)]⟩ tRKeepm5)) (.again 20 ⟨[], [], [], [(.var 10), (.var 11)], [(.var 5)]⟩ tRKeepm7)) (.need (.inb 1 (.var 11) (.nat 2)) (.gen (.store 139 (.tmp 112) (.tmp 110)) 0 [(112, (.lf (.adr 1 (.var 11) 3 2))), (110, (.lf (tSl 6 12 13)))] tRKeepm9 .none tRKeepm9 (.done (.lf (tSl 1 2 3)) tRKeepm9)))))))))))))))
abbrev tRKeept0 : Tree := (.call 81 [(.agg [(tVi 12), (tVi 13), (tSl 2 4 5)]), (.lf (tVi 1))] tRKeepm17 (.tup [(.true, [(tVi 14), (tVi 15), (tVi 16)]), (.false, [(.bool (.var 0))])]) tRKeepm18 tRKeept1)
set_option maxRecDepth 100000 in
theorem tRKeep : (runF ⟨tt, fns, { cur := [1, 2, 3, 4, 5, 6, 7, 8, 9, 10, 11, 12], quiet := [6, 13], joins := [(16, ⟨[(11, .sl), (12, .bool)], []⟩), (20, ⟨[(11, .sl)], []⟩)], loops := [(11, ⟨[(61, .int .i64), (11, .sl), (12, .bool)], []⟩)] }⟩ (Try.f60.body.getD .skip) Try.f60.results.toList (entry Try.f60.ntmps [.lf (.sl 0 (.var 0) (.var 1)), .agg [.int .i64 (.var 0), .int .i64 (.var 1), .int .i64 (.var 2), .int .i64 (.var 3), .int .i64 (.var 4), .int .i64 (.var 5), .int .i64 (.var 6), .int .i64 (.var 7)], .agg [.int .i64 (.var 8), .int .i64 (.var 9), .int .i64 (.var 10)]] [] ⟨11, 0, 0, 2, 1⟩)) =
  (.call 79 [(.lf (tSl 0 0 1))] ⟨[(43, tRKeepb0), (62, [(tVi 8), (tVi 9), (tVi 10)])], ⟨11, 0, 0, 2, 1⟩⟩ (.lf (tSl 1 2 3)) tRKeepm19 (.call 80 [(.lf (tSl 1 2 3)), (.lf (tVi 0))] tRKeepm19 (.lf (tVi 11)) tRKeepm20 (.br (.cmp .lss (.var 11) (.lit 0)) (.done (.lf (tSl 1 2 3)) tRKeepm20) (.need (.inb 1 (.var 11) (.nat 2)) (.par (.ld .true (.adr 1 (.var 11) 3 0) [(tVi 12), (tVi 13), (tSl 2 4 5)] tRKeepm20 tRKeepm21 (.par (.call 81 [(.agg [(tVi 12), (tVi 13), (tSl 2 4 5)]), (.lf (tVi 1))] tRKeepm21 (.tup [(.true, [(tVi 14), (tVi 15), (tVi 16)]), (.false, [(.bool (.var 0))])]) ⟨[(43, tRKeepb0), (62, [(tVi 8), (tVi 9), (tVi 10)])], ⟨17, 1, 0, 6, 3⟩⟩ tRKeept1) tRKeept0)) (.ld .true (.adr 1 (.var 11) 3 0) [(tVi 12), (tVi 13), (tSl 2 4 5)] ⟨[(43, tRKeepb0), (62, [(tVi 8), (tVi 9), (tVi 10)]), (62, [(tLi 0), (tLi 0), (tLi 0)])], ⟨12, 0, 0, 4, 2⟩⟩ tRKeepm17 tRKeept0)))))) := by kernel_rfl
abbrev tXRExecb0 : List LV := [(.int .i64 (.op .add .i64 (.var 21) (.lit 1))), (tSl 4 8 9), (tVi 18), (tVi 23), (tVi 24), (tVi 25), (tVi 26), (tVi 27), (tVi 28), (tVi 29), (tVi 30), (tVi 31), (tVi 32), (tVi 33), (tVi 34), (tVi 35), (tVi 36), (tVi 37), (tVi 38), (tSl 5 10 11)]
abbrev tXRExecb1 : List LV := [(tVi 58), (tSl 9 18 19), (tVi 59), (tVi 87), (tVi 88), (tVi 89), (tVi 90), (tVi 91), (tVi 92), (tVi 93), (tVi 94), (tVi 95), (tVi 96), (tVi 97), (tVi 98), (tVi 99), (tVi 100), (tVi 101), (tVi 102), (tSl 10 20 21)]
abbrev tXRExecb2 : List LV := [(tVi 58), (tSl 9 18 19), (tVi 59), (tVi 87), (tVi 88), (tVi 89), (tVi 90), (tVi 91), (tVi 92), (tVi 93), (tVi 94), (tVi 95), (tVi 96), (tVi 97), (tVi 98), (tVi 99), (tVi 100), (tVi 101), (tVi 102), (tSl 12 24 25)]
abbrev tXRExecb3 : List LV := [(tVi 58), (tSl 9 18 19), (tVi 59), (tVi 60), (tVi 61), (tVi 62), (tVi 63), (tVi 64), (tVi 65), (tVi 66), (tVi 67), (tVi 68), (tVi 69), (tVi 70), (tVi 71), (tVi 72), (tVi 73), (tVi 74), (tVi 75), (tSl 10 20 21)]
abbrev tXRExecb4 : List LV := [(tVi 58), (tSl 9 18 19), (tVi 59), (tVi 60), (tVi 61), (tVi 62), (tVi 63), (tVi 64), (tVi 65), (tVi 66), (tVi 67), (tVi 68), (tVi 69), (tVi 70), (tVi 71), (tVi 72), (tVi 73), (tVi 74), (tVi 75), (tSl 11 22 23)]
abbrev tXRExecb5 : List LV := [(tVi 39), (tSl 6 12 13), (tVi 40), (tVi 41), (tVi 42), (tVi 43), (tVi 44), (tVi 45), (tVi 46), (tVi 47), (tVi 48), (tVi 49), (tVi 50), (tVi 51), (tVi 52), (tVi 53), (tVi 54), (tVi 55), (tVi 56), (tSl 7 14 15)]
abbrev tXRExecb6 : List LV := [(tVi 21), (tSl 4 8 9), (tVi 18), (tVi 23), (tVi 24), (tVi 25), (tVi 26), (tVi 27), (tVi 28), (tVi 29), (tVi 30), (tVi 31), (tVi 32), (tVi 33), (tVi 34), (tVi 35), (tVi 36), (tVi 37), (tVi 38), (tSl 5 10 11)]
abbrev tXRExecb7 : List LV := [(tVi 0), (tSl 0 0 1), (tVi 1), (tVi 2), (tVi 3), (tVi 4), (tVi 5), (tVi 6), (tVi 7), (tVi 8), (tVi 9), (tVi 10), (tVi 11), (tVi 12), (tVi 13), (tVi 14), (tVi 15), (tVi 16), (tVi 17), (tSl 1 2 3)]
abbrev tXRExecb8 : List LV := [(tLi 0), .nilsl, (tLi 0), (tLi 0), (tLi 0), (tLi 0), (tLi 0), (tLi 0), (tLi 0), (tLi 0), (tLi 0), (tLi 0), (tLi 0), (tLi 0), (tLi 0), (tLi 0), (tLi 0), (tLi 0), (tLi 0), .nilsl]
abbrev tXRExecb9 : List LV := [(tVi 87), (tVi 88), (tVi 89), (tVi 90), (tVi 91), (tVi 92), (tVi 93), (tVi 94), (tVi 95), (tVi 96), (tVi 97), (tVi 98), (tVi 99), (tVi 100), (tVi 101), (tVi 102)]
abbrev tXRExecb10 : List LV := [(tVi 76), (tVi 77), (tVi 78), (tVi 79), (tVi 80), (tVi 81), (tVi 82), (tVi 83)]
abbrev tXRExecb11 : List LV := [(tVi 76), (tVi 77), (tVi 103), (tVi 104), (tVi 105)]
abbrev tXRExecb12 : List LV := [(tVi 76), (tVi 77), (tVi 84), (tVi 85), (tVi 86)]
abbrev tXRExecm0 : Mem := ⟨[(54, tXRExecb2), (35, [(tVi 19), (tSl 2 4 5), (tSl 3 6 7)]), (54, tXRExecb8), (64, []), (43, tXRExecb10), (62, [(tVi 103), (tVi 104), (tVi 105)]), (51, tXRExecb9), (62, [(tVi 103), (tVi 104), (tVi 105)]), (64, tXRExecb11)], ⟨106, 2, 0, 28, 14⟩⟩
abbrev tXRExecm1 : Mem := ⟨[(54, tXRExecb4), (35, [(tVi 19), (tSl 2 4 5), (tSl 3 6 7)]), (54, tXRExecb8), (64, []), (43, tXRExecb10), (62, [(tVi 84), (tVi 85), (tVi 86)]), (64, tXRExecb12)], ⟨87, 2, 0, 26, 13⟩⟩
abbrev tXRExecm2 : Mem := ⟨[(54, tXRExecb3), (35, [(tVi 19), (tSl 2 4 5), (tSl 3 6 7)]), (54, tXRExecb8), (64, [])], ⟨76, 1, 0, 22, 11⟩⟩
abbrev tXRExecm3 : Mem := ⟨[(54, tXRExecb6), (35, [(tVi 19), (tSl 2 4 5), (tSl 3 6 7)]), (54, tXRExecb8)], ⟨39, 1, 0, 12, 6⟩⟩
abbrev tXRExecm4 : Mem := ⟨[(54, tXRExecb7), (35, [(tVi 19), (tSl 2 4 5), (tSl 3 6 7)]), (54, tXRExecb8)], ⟨20, 1, 0, 8, 4⟩⟩
abbrev tXRExecm5 : Mem := ⟨[(54, tXRExecb7), (35, [(tVi 19), (tSl 2 4 5), (tSl 3 6 7)]), (54, tXRExecb8)], ⟨21, 1, 0, 8, 4⟩⟩
set_option maxRecDepth 100000 in
theorem tXRExec : (runF ⟨tt, fns, { cur := [1000], joins := [(5, ⟨[], []⟩), (13, ⟨[], [0]⟩)], loops := [(15, ⟨[(68, .int .i64), (10, .sl)], [0]⟩)] }⟩ (Try.f43.body.getD .skip) Try.f43.results.toList (entry Try.f43.ntmps [.agg [.int .i64 (.var 0), .sl 0 (.var 0) (.var 1), .int .i64 (.var 1), .int .i64 (.var 2), .int .i64 (.var 3), .int .i64 (.var 4), .int .i64 (.var 5), .int .i64 (.var 6), .int .i64 (.var 7), .int .i64 (.var 8), .int .i64 (.var 9), .int .i64 (.var 10), .int .i64 (.var 11), .int .i64 (.var 12), .int .i64 (.var 13), .int .i64 (.var 14), .int .i64 (.var 15), .int .i64 (.var 16), .int .i64 (.var 17), .sl 1 (.var 2) (.var 3)], .lf (.int .i64 (.var 18)), .agg [.int .i64 (.var 19), .sl 2 (.var 4) (.var 5), .sl 3 (.var 6) (.var 7)]] [] ⟨20, 0, 0, 8, 4⟩)) =
  (.call 57 [(.agg tXRExecb7)] ⟨[(54, tXRExecb7), (35, [(tVi 19), (tSl 2 4 5), (tSl 3 6 7)]), (54, tXRExecb8)], ⟨20, 0, 0, 8, 4⟩⟩ (.lf (.bool (.var 0))) tXRExecm4 (.br (.not (.var 0)) (.done (.tup [(.true, tXRExecb8), (.false, [.nilsl]), (.false, [(tLi 44)])]) tXRExecm4) (.join 5 tXRExecm4 tXRExecm4 (.br (.cmp .neq (.var 1) (.op .sub .i64 (.var 18) (.lit 1))) (.done (.tup [(.true, tXRExecb8), (.false, [.nilsl]), (.false, [(tLi 61)])]) tXRExecm4) (.br (.cmp .gtr (.var 18) (.lit 1099511627776)) (.done (.tup [(.true, tXRExecb8), (.false, [.nilsl]), (.false, [(tLi 61)])]) tXRExecm4) (.br (.cmp .eql (.var 19) (.lit 2)) (.br (.cmp .eql (.var 0) (.lit 1099511627776)) (.done (.tup [(.true, tXRExecb8), (.false, [.nilsl]), (.false, [(tLi 61)])]) tXRExecm4) (.again 5 ⟨[], [], [], [], []⟩ tXRExecm4)) (.again 5 ⟨[], [], [], [], []⟩ tXRExecm4)))) (.call 21 [(.agg [(tVi 19), (tSl 2 4 5), (tSl 3 6 7)])] tXRExecm4 (.lf (tVi 20)) tXRExecm5 (.br (.cmp .neq (.var 20) (.lit 0)) (.done (.tup [(.true, tXRExecb8), (.false, [.nilsl]), (.false, [(tVi 20)])]) tXRExecm5) (.call 58 [(.agg tXRExecb7)] tXRExecm5 (.agg [(tVi 21), (tSl 4 8 9), (tVi 22), (tVi 23), (tVi 24), (tVi 25), (tVi 26), (tVi 27), (tVi 28), (tVi 29), (tVi 30), (tVi 31), (tVi 32), (tVi 33), (tVi 34), (tVi 35), (tVi 36), (tVi 37), (tVi 38), (tSl 5 10 11)]) ⟨[(54, tXRExecb7), (35, [(tVi 19), (tSl 2 4 5), (tSl 3 6 7)]), (54, tXRExecb8)], ⟨39, 1, 0, 12, 6⟩⟩ (.join 13 tXRExecm3 ⟨[(54, tXRExecb5), (35, [(tVi 19), (tSl 2 4 5), (tSl 3 6 7)]), (54, tXRExecb8)], ⟨57, 1, 0, 16, 8⟩⟩ (.br (.cmp .eql (.var 19) (.lit 2)) (.gen (.call ⟨(.builtin .append), #[(.tmp 59), (.tmp 61)], #[33, 33]⟩) 33 [(59, (.lf (.nsl 3 0 0 0))), (61, (.lf (tSl 3 6 7)))] ⟨[(54, tXRExecb0), (35, [(tVi 19), (tSl 2 4 5), (tSl 3 6 7)]), (54, tXRExecb8), (3, [])], ⟨39, 1, 0, 12, 6⟩⟩ (.some (.lf (tSl 6 12 13))) ⟨[(54, tXRExecb0), (35, [(tVi 19), (tSl 2 4 5), (tSl 3 6 7)]), (54, tXRExecb8), (3, [])], ⟨39, 1, 0, 14, 7⟩⟩ (.again 13 ⟨[(.op .add .i64 (.var 21) (.lit 1)), (.var 18), (.var 23), (.var 24), (.var 25), (.var 26), (.var 27), (.var 28), (.var 29), (.var 30), (.var 31), (.var 32), (.var 33), (.var 34), (.var 35), (.var 36), (.var 37), (.var 38)], [], [], [(.var 12), (.var 13), (.var 10), (.var 11)], [(.var 6), (.var 5)]⟩ ⟨[(54, [(.int .i64 (.op .add .i64 (.var 21) (.lit 1))), (tSl 6 12 13), (tVi 18), (tVi 23), (tVi 24), (tVi 25), (tVi 26), (tVi 27), (tVi 28), (tVi 29), (tVi 30), (tVi 31), (tVi 32), (tVi 33), (tVi 34), (tVi 35), (tVi 36), (tVi 37), (tVi 38), (tSl 5 10 11)]), (35, [(tVi 19), (tSl 2 4 5), (tSl 3 6 7)]), (54, tXRExecb8), (3, [])], ⟨39, 1, 0, 14, 7⟩⟩)) (.again 13 ⟨[(.var 21), (.var 18), (.var 23), (.var 24), (.var 25), (.var 26), (.var 27), (.var 28), (.var 29), (.var 30), (.var 31), (.var 32), (.var 33), (.var 34), (.var 35), (.var 36), (.var 37), (.var 38)], [], [], [(.var 8), (.var 9), (.var 10), (.var 11)], [(.var 4), (.var 5)]⟩ tXRExecm3)) (.loop 15 ⟨[(.lit 0), (.var 39), (.var 40), (.var 41), (.var 42), (.var 43), (.var 44), (.var 45), (.var 46), (.var 47), (.var 48), (.var 49), (.var 50), (.var 51), (.var 52), (.var 53), (.var 54), (.var 55), (.var 56)], [], [], [(.lit 0), (.lit 0), (.var 12), (.var 13), (.var 14), (.var 15)], [(.nm 3 0), (.var 6), (.var 7)]⟩ ⟨[(54, tXRExecb5), (35, [(tVi 19), (tSl 2 4 5), (tSl 3 6 7)]), (54, tXRExecb8), (64, [])], ⟨57, 1, 0, 16, 8⟩⟩ tXRExecm2 (.br (.cmp .lss (.var 57) (.nat 4)) (.need (.inb 2 (.var 57) (.nat 4)) (.ld .false (.adr 2 (.var 57) 8 0) tXRExecb10 tXRExecm2 ⟨[(54, tXRExecb3), (35, [(tVi 19), (tSl 2 4 5), (tSl 3 6 7)]), (54, tXRExecb8), (64, [])], ⟨84, 1, 0, 22, 11⟩⟩ (.call 59 [(.lf (tSl 10 20 21)), (.agg tXRExecb10)] ⟨[(54, tXRExecb3), (35, [(tVi 19), (tSl 2 4 5), (tSl 3 6 7)]), (54, tXRExecb8), (64, []), (43, tXRExecb10)], ⟨84, 1, 0, 22, 11⟩⟩ (.tup [(.false, [(tSl 11 22 23)]), (.true, [(tVi 84), (tVi 85), (tVi 86)]), (.false, [(.bool (.var 1))])]) ⟨[(54, tXRExecb3), (35, [(tVi 19), (tSl 2 4 5), (tSl 3 6 7)]), (54, tXRExecb8), (64, []), (43, tXRExecb10)], ⟨87, 2, 0, 24, 12⟩⟩ (.br (.not (.var 1)) (.call 44 [(.agg [(tVi 60), (tVi 61), (tVi 62), (tVi 63), (tVi 64), (tVi 65), (tVi 66), (tVi 67), (tVi 68), (tVi 69), (tVi 70), (tVi 71), (tVi 72), (tVi 73), (tVi 74), (tVi 75)]), (.agg [(tVi 79), (tVi 80), (tVi 81), (tVi 82), (tVi 83)])] ⟨[(54, tXRExecb3), (35, [(tVi 19), (tSl 2 4 5), (tSl 3 6 7)]), (54, tXRExecb8), (64, []), (43, tXRExecb10), (62, [(tVi 84), (tVi 85), (tVi 86)])], ⟨87, 2, 0, 24, 12⟩⟩ (.tup [(.true, tXRExecb9), (.true, [(tVi 103), (tVi 104), (tVi 105)])]) ⟨[(54, tXRExecb3), (35, [(tVi 19), (tSl 2 4 5), (tSl 3 6 7)]), (54, tXRExecb8), (64, []), (43, tXRExecb10), (62, [(tVi 84), (tVi 85), (tVi 86)])], ⟨106, 2, 0, 24, 12⟩⟩ (.call 60 [(.lf (tSl 11 22 23)), (.agg tXRExecb10), (.agg [(tVi 103), (tVi 104), (tVi 105)])] ⟨[(54, tXRExecb1), (35, [(tVi 19), (tSl 2 4 5), (tSl 3 6 7)]), (54, tXRExecb8), (64, []), (43, tXRExecb10), (62, [(tVi 103), (tVi 104), (tVi 105)]), (51, tXRExecb9), (62, [(tVi 103), (tVi 104), (tVi 105)])], ⟨106, 2, 0, 24, 12⟩⟩ (.lf (tSl 12 24 25)) ⟨[(54, tXRExecb1), (35, [(tVi 19), (tSl 2 4 5), (tSl 3 6 7)]), (54, tXRExecb8), (64, []), (43, tXRExecb10), (62, [(tVi 103), (tVi 104), (tVi 105)]), (51, tXRExecb9), (62, [(tVi 103), (tVi 104), (tVi 105)])], ⟨106, 2, 0, 26, 13⟩⟩ (.gen (.call ⟨(.builtin .append), #[(.tmp 103), (.tmp 110)], #[58, 58]⟩) 58 [(103, (.lf (tSl 8 16 17))), (110, (.lf (.nsl 8 0 1 1)))] ⟨[(54, tXRExecb2), (35, [(tVi 19), (tSl 2 4 5), (tSl 3 6 7)]), (54, tXRExecb8), (64, []), (43, tXRExecb10), (62, [(tVi 103), (tVi 104), (tVi 105)]), (51, tXRExecb9), (62, [(tVi 103), (tVi 104), (tVi 105)]), (64, tXRExecb11)], ⟨106, 2, 0, 26, 13⟩⟩ (.some (.lf (tSl 13 26 27))) tXRExecm0 (.again 15 ⟨[(.op .add .i64 (.var 57) (.lit 1)), (.var 58), (.var 59), (.var 87), (.var 88), (.var 89), (.var 90), (.var 91), (.var 92), (.var 93), (.var 94), (.var 95), (.var 96), (.var 97), (.var 98), (.var 99), (.var 100), (.var 101), (.var 102)], [], [], [(.var 26), (.var 27), (.var 18), (.var 19), (.var 24), (.var 25)], [(.var 13), (.var 9), (.var 12)]⟩ tXRExecm0)))) (.gen (.call ⟨(.builtin .append), #[(.tmp 103), (.tmp 110)], #[58, 58]⟩) 58 [(103, (.lf (tSl 8 16 17))), (110, (.lf (.nsl 6 0 1 1)))] ⟨[(54, tXRExecb4), (35, [(tVi 19), (tSl 2 4 5), (tSl 3 6 7)]), (54, tXRExecb8), (64, []), (43, tXRExecb10), (62, [(tVi 84), (tVi 85), (tVi 86)]), (64, tXRExecb12)], ⟨87, 2, 0, 24, 12⟩⟩ (.some (.lf (tSl 12 24 25))) tXRExecm1 (.again 15 ⟨[(.op .add .i64 (.var 57) (.lit 1)), (.var 58), (.var 59), (.var 60), (.var 61), (.var 62), (.var 63), (.var 64), (.var 65), (.var 66), (.var 67), (.var 68), (.var 69), (.var 70), (.var 71), (.var 72), (.var 73), (.var 74), (.var 75)], [], [], [(.var 24), (.var 25), (.var 18), (.var 19), (.var 22), (.var 23)], [(.var 12), (.var 9), (.var 11)]⟩ tXRExecm1)))))) (.done (.tup [(.true, tXRExecb3), (.false, [(tSl 8 16 17)]), (.false, [(tLi 0)])]) ⟨[(54, tXRExecb3), (35, [(tVi 19), (tSl 2 4 5), (tSl 3 6 7)]), (54, tXRExecb3), (64, [])], ⟨76, 1, 0, 22, 11⟩⟩)))))))))) := by kernel_rfl
end Go.Proofs.Ytbedoemdjlollaa
