/- Part 16 of the texts of a proof about the given program: what the statement's proof needs of them. -/
import Derived.KernelRfl
import Derived.Test.YtbedoemdjlollaaKJudgeMerges15
namespace Go.Proofs.Ytbedoemdjlollaa
open Go.ChangeShapes Go.WideShapes Go.ChangeAt Go.RowKit Go.Syn Go.Eng
set_option linter.unusedVariables false
set_option linter.unusedSimpArgs false
set_option maxRecDepth 100000
theorem HX.nil_and (a : HX) : HX.nil.and a = a := HX.ext (by funext k; exact propext ⟨fun h => h.elim (fun q => q.elim) id, .inr⟩) (by funext w; exact propext ⟨And.right, fun h => ⟨trivial, h⟩⟩)
theorem tb_sep {a : Option Addr} {c : Nat} {es : List SE} {i : Nat} {e : SE} (he : es[i]? = some e) (hdj : Dj a c es) {a' : Option Addr} {c' : Nat} {w : World} (hnew : ∀ k, (tabR a c es).F k → w.heap.size ≤ k) {s : SsD}
    (h1 : ∀ k, c' ≠ 0 → abk a' = some k → ¬ ((ksR (es.eraseIdx i)).and (tRow a c es)).F k) (h2 : ∀ k, c' ≠ 0 → abk a' = some k → w.heap.size ≤ k) : Dj a c (es.set i ⟨s, a', c'⟩) ∧ ∀ k, (tabR a c (es.set i ⟨s, a', c'⟩)).F k → w.heap.size ≤ k := by
  refine ⟨hdj.set he (fun k hk => ⟨fun q => h1 k hk.1 hk.2 (.inl q), fun q => h1 k hk.1 hk.2 (.inr q)⟩), ?_⟩
  rintro k (hk | hk)
  · rw [ksR_set he] at hk
    rcases hk with hk | hk
    · exact hnew k (.inl (by rw [ksR_split he]; exact .inl hk))
    · exact h2 k hk.1 hk.2
  · exact hnew k (.inr hk)
set_option maxHeartbeats 4000000 in
theorem tkeep_any (a : Option Addr) (cap : Nat) (es : List SE) (sess seq ack o1 o2 o3 o4 o5 k re im : Int) (w : World) (H : TbAt w a es) (hok : TOk (es.map SE.s)) :
    Calls Try.prog 56 #[.slice a es.length cap, cmdC sess seq ack o1 o2 o3 o4 o5, .agg #[.int .i64 k, .int .i64 re, .int .i64 im]] w (TbNew w id (keepV (es.map SE.s) sess seq k re im)) := by
  refine calls_at (tab_ok _) Try.func56 rfl tTKeep (ρ := ⟨[sess, seq, ack, o1, o2, o3, o4, o5, k, re, im], [], [], [es.length, cap], [a]⟩) (ids := []) (hx := HX.nil) rfl (Facts.initP rfl oneNil) ?_
  obtain ⟨t, et⟩ : ∃ t, t = es.map SE.s := ⟨_, rfl⟩
  rw [← et] at hok ⊢
  obtain ⟨R, eR⟩ : ∃ R, R = keepV t sess seq k re im := ⟨_, rfl⟩
  rw [← eR]
  have htl : t.length = es.length := by rw [et, List.length_map]
  have hkk : ∀ e ∈ es, e.s.kept.length ≤ 1000000 := fun e he => Nat.le_trans (hok.kept e.s (by rw [et]; exact List.mem_map_of_mem he)) (by decide)
  refine node_tb (V := id) (tb := t) (fun _ => #[.slice a es.length cap]) (fun a' c' => ⟨[], [], [], [t.length, c'], [a']⟩) (by intros; kernel_rfl) (fun ids w2 hp hf => by
    rw [et]; exact tclone_any a cap es w2 (H.keep (fun k hk => hf.chg.block k hk (fun q => q))) (by have := hok.len; omega) hkk) (by intros; kernel_rfl) (by kernel_rfl) (by kernel_rfl) (by intros; kernel_rfl) (fun _ _ => oneNil) ?_
  intro a2 c2 es2 hm2 hdj2 hsm2 hnew2
  have hl1 : es2.length = t.length := by rw [← hm2, List.length_map]
  have hn1 : (es2.map fun e => e.s.no) = nosT t := by rw [← hm2]; unfold nosT; rw [List.map_map]; rfl
  have hlen := hok.len
  obtain ⟨i, ei⟩ : ∃ i, i = posI (nosT t) sess := ⟨_, rfl⟩
  refine holds_env (ρ' := ⟨[sess, seq, ack, o1, o2, o3, o4, o5, k, re, im], [], [], [es.length, cap, es2.length, c2], [a, a2]⟩) (by rw [hl1]; kernel_rfl) ?_
  refine holds_eq (HX.nil_and _) ?_
  have hnew3 : ∀ k, (tabR a2 c2 es2).F k → w.heap.size ≤ k := fun k hk => (hnew2 k hk).1
  refine node_P ⟨[(i : Int)], [hitI (nosT t) sess], [], [], []⟩ #[.slice a2 es2.length c2, .int .i64 sess, .func (.func 71) #[] #[]] (.tuple #[.int .i64 (i : Int), .bool (hitI (nosT t) sess)]) (by intros; kernel_rfl) (by intros; kernel_rfl) (by intros; kernel_rfl) (by intros; kernel_rfl) (by intros; kernel_rfl) oneNil (fun ids w2 hp hf => by
    have := bst_any a2 c2 es2 sess w2 (rw_cells hf.x.2) (by rw [hn1]; exact hok.nos) (by omega)
    rw [hn1, ← ei] at this; exact this) ?_
  have stay : R = t → ∀ {m : Mem} {ρ : Env} {v : SV} {pre : List Nat} {L : Stack}, (∀ ids, v.den ρ ids = .slice a2 es2.length c2) → (Tree.done v m).holds ⟨Try.prog, w, fun _ => False, TbNew w id R⟩ ρ pre (tabR a2 c2 es2) L := fun hR {m ρ v pre L} hv ids w2 hp hf => by
    rw [hR] at hf ⊢
    exact tb_fin hf hm2 hdj2 hnew3 (hv ids)
  rcases Bool.eq_false_or_eq_true (hitI (nosT t) sess) with hh | hh
  rotate_left
  · refine br_T (!(hitI (nosT t) sess)) (by kernel_rfl) (by rw [hh]; rfl) ?_
    exact stay (by rw [eR]; unfold keepV; rw [if_pos hh]) (by intros; kernel_rfl)
  refine br_F (!(hitI (nosT t) sess)) (by kernel_rfl) (by rw [hh]; rfl) ?_
  obtain ⟨s, hs, hsno, hs1, _⟩ := tabS_at t sess
  rw [← ei] at hs1
  have hts := hs1 hh
  obtain ⟨e, he, hes⟩ : ∃ e, es2[i]? = some e ∧ e.s = s := by
    have h1 : (es2.map SE.s)[i]? = some s := by rw [hm2]; exact hts
    rw [List.getElem?_map] at h1
    cases h4 : es2[i]? with
    | none => rw [h4] at h1; cases h1
    | some x => rw [h4] at h1; simp only [Option.map_some, Option.some.injEq] at h1; exact ⟨x, rfl, h1⟩
  have hem := List.mem_of_getElem? he
  have hi2 : i < es2.length := (List.getElem?_eq_some_iff.1 he).1
  have hwe : es2 ≠ [] := fun q => by rw [q] at hi2; simp at hi2
  have hsok : e.s.kept.length ≤ 1000 ∧ Rise (seqsK e.s.kept) := by
    rw [hes]
    have := List.mem_of_getElem? hts
    exact ⟨hok.kept s this, hok.seqs s this⟩
  obtain ⟨l, el⟩ : ∃ l, l = e.s.kept := ⟨_, rfl⟩
  rw [← el] at hsok
  obtain ⟨j, ej⟩ : ∃ j, j = posI (seqsK l) seq := ⟨_, rfl⟩
  have hR : R = if hitI (seqsK l) seq = true ∨ seq ≤ e.s.ack ∨ 8 ≤ l.length then t else t.set i ⟨e.s.no, e.s.ack, insAt l j ⟨seq, k, re, im⟩⟩ := by
    rw [eR]; unfold keepV
    rw [if_neg (by rw [hh]; decide), ← ei, hts]
    dsimp only
    rw [← hes, ← el, ← ej]
  have hi0 : (0 : Int) ≤ (i : Int) ∧ (i : Int) < (es2.length : Int) := by omega
  refine need_k (a2.isSome = true ∧ (0 : Int) ≤ i ∧ (i : Int) < es2.length) (by kernel_rfl) ⟨hsm2.tab hwe, hi0⟩ ?_
  have ldk2 : ∀ {m m' : Mem} {t : Tree} {L : Stack} {pre : List Nat} {R : Ending → World → Prop} {ρ : Env} {l2 : LV} {cs : List LV}, (∀ ids, l2.den ρ ids = .pointer (some (((a2.getD ⟨0, 0, none⟩).add (i * 3)).add 2))) → (∀ ids, cellsDen (ρ.add ⟨[], [], [], [l.length, e.c], [e.a]⟩) ids cs = [.slice e.a l.length e.c]) → (ρ.add ⟨[], [], [], [l.length, e.c], [e.a]⟩).cnt = m'.c → t.holds ⟨Try.prog, w, fun _ => False, R⟩ (ρ.add ⟨[], [], [], [l.length, e.c], [e.a]⟩) pre (tabR a2 c2 es2) L → (Tree.ld true l2 cs m m' t).holds ⟨Try.prog, w, fun _ => False, R⟩ ρ pre (tabR a2 c2 es2) L := fun h1 h2 h3 h4 =>
    node_ldk ⟨[], [], [], [l.length, e.c], [e.a]⟩ (fun _ => .pointer (some (((a2.getD ⟨0, 0, none⟩).add (i * 3)).add 2))) [.slice e.a l.length e.c] h1 h2 (fun ids w2 hp hf => se_key i e he (n := 0) (by rw [el]; rfl) (rw_cells hf.x.2)) h3 oneNil h4
  refine ldk2 (by intros; kernel_rfl) (by intros; kernel_rfl) (by kernel_rfl) ?_
  have hq : (l.map fun e => e.seq) = seqsK l := rfl
  refine node_P ⟨[(j : Int)], [hitI (seqsK l) seq], [], [], []⟩ #[.slice e.a l.length e.c, .int .i64 seq, .func (.func 76) #[] #[]] (.tuple #[.int .i64 (j : Int), .bool (hitI (seqsK l) seq)]) (by intros; kernel_rfl) (by intros; kernel_rfl) (by intros; kernel_rfl) (by intros; kernel_rfl) (by intros; kernel_rfl) oneNil (fun ids w2 hp hf => by
    have hc := rw_cells (hf.x.1 e hem)
    rw [← el] at hc
    have := bsk_any e.a e.c l seq w2 hc hsok.2 (by omega)
    rw [hq, ← ej] at this; exact this) ?_
  rcases Bool.eq_false_or_eq_true (hitI (seqsK l) seq) with hh2 | hh2
  · refine br_T (hitI (seqsK l) seq) (by kernel_rfl) hh2 ?_
    exact stay (by rw [hR, if_pos (.inl hh2)]) (by intros; kernel_rfl)
  refine br_F (hitI (seqsK l) seq) (by kernel_rfl) hh2 ?_
  refine node_ldk ⟨[e.s.ack], [], [], [], []⟩ (fun _ => .pointer (some (((a2.getD ⟨0, 0, none⟩).add (i * 3)).add 1))) [.int .i64 e.s.ack] (by intros; kernel_rfl) (by intros; kernel_rfl) (fun ids w2 hp hf => se_key i e he (n := 0) rfl (rw_cells hf.x.2)) (by kernel_rfl) oneNil ?_
  by_cases hst : seq ≤ e.s.ack
  · refine br_T (decide (seq ≤ e.s.ack)) (by kernel_rfl) (decide_eq_true hst) ?_
    exact stay (by rw [hR, if_pos (.inr (.inl hst))]) (by intros; kernel_rfl)
  refine br_F (decide (seq ≤ e.s.ack)) (by kernel_rfl) (decide_eq_false hst) ?_
  refine ldk2 (by intros; kernel_rfl) (by intros; kernel_rfl) (by kernel_rfl) ?_
  by_cases h8 : 8 ≤ l.length
  · refine br_T (decide ((l.length : Int) ≥ 8)) (by kernel_rfl) (decide_eq_true (by omega)) ?_
    exact stay (by rw [hR, if_pos (.inr (.inr h8))]) (by intros; kernel_rfl)
  refine br_F (decide ((l.length : Int) ≥ 8)) (by kernel_rfl) (decide_eq_false (by omega)) ?_
  rw [if_neg (by rw [hh2]; rintro (q | q | q) <;> first | cases q | omega)] at hR
  have hjl : j ≤ l.length := by
    have := pos_le (seqsK l) seq
    rw [ej]; unfold seqsK at this ⊢
    rwa [List.length_map] at this
  refine ⟨?_, ?_⟩
  all_goals
    refine ldk2 (by intros; kernel_rfl) (by intros; kernel_rfl) (by kernel_rfl) ?_
    refine holds_eq (show _ = ((ksR (es2.eraseIdx i)).and (tRow a2 c2 es2)).and (HX.rw 4 143 e.a l.length e.c (kcells l)) from by unfold tabR; rw [ksR_split he, HX.and_right_comm, el]; rfl) ?_
    have hdE := hdj2.one he
    refine node_rwm (V := id) (n' := l.length + 1) (zs := (kcells l).take (j * 4) ++ [.int .i64 seq, .int .i64 k, .int .i64 re, .int .i64 im] ++ (kcells l).drop (j * 4)) (fun ids => #[.slice e.a l.length e.c, .int .i64 (j : Int), .slice (some ⟨idAt ids 2, 0, none⟩) 1 1]) (fun a' c' => ⟨[], [], [], [l.length + 1, c'], [a']⟩) (by intros; kernel_rfl) (fun ids w2 hp hf => ?_) (fun q h1 h2 hF => ?_) (fun q h1 h2 => .inl (hnew3 q (.inl ⟨e, hem, h1, h2⟩))) (by intros; kernel_rfl) (by kernel_rfl) (by kernel_rfl) (by intros; kernel_rfl) (fun _ _ => oneNil) ?_
    · have hlt2 : 2 < ids.length := by rw [hf.len]; decide
      exact insk_any e.a e.c l.length j (kcells l) seq k re im (idAt ids 2) w2 hf.x.2 (hf.blkAt 2 rfl) hjl (by omega) (kp_one l) (fun k h1 h2 q => (hf.sep k (.inr ⟨h1, h2⟩)).2 (q ▸ idAt_mem hlt2))
    · rcases hF with hF | hF
      · exact (hdE q ⟨h1, h2⟩).1 hF
      · exact (hdE q ⟨h1, h2⟩).2 hF
    intro a' c' hsm' hdis' hwh'
    obtain ⟨l2, el2⟩ : ∃ l2, l2 = insAt l j ⟨seq, k, re, im⟩ := ⟨_, rfl⟩
    have hl2 : l2.length = l.length + 1 := by rw [el2, insAt_len _ hjl]
    have hz : (kcells l).take (j * 4) ++ [Value.int .i64 seq, .int .i64 k, .int .i64 re, .int .i64 im] ++ (kcells l).drop (j * 4) = kcells l2 := by rw [el2]; exact (insAt_flat kp_len l j ⟨seq, k, re, im⟩).symm
    obtain ⟨e3, ee3⟩ : ∃ e3 : SE, e3 = ⟨⟨e.s.no, e.s.ack, l2⟩, a', c'⟩ := ⟨_, rfl⟩
    obtain ⟨hdj3, hnew4⟩ := tb_sep (s := ⟨e.s.no, e.s.ack, l2⟩) he hdj2 hnew3 hdis' (fun q h1 h2 => by
      rcases hwh' q h1 h2 with z | z
      · exact hnew3 q (.inl ⟨e, hem, z.1, z.2⟩)
      · exact z.1)
    rw [← ee3] at hdj3 hnew4
    refine holds_eq (show _ = ((ksR (es2.eraseIdx i)).and (kRow e3)).and (HX.rw 3 141 a2 es2.length c2 (secells es2)) from by rw [hz, HX.and_right_comm, ee3]; unfold kRow tRow; dsimp only; rw [hl2]) ?_
    refine node_stores (sz := 3) a2 es2.length c2 (secells es2) [.slice a' (l.length + 1) c'] i 2 (.slice a' (l.length + 1) c') (by kernel_rfl) (by intros; kernel_rfl) (by intros; kernel_rfl) rfl (by simp [Value.oneCell']) (by simp; omega) (by simp) (fun q h1 h2 hF => ?_) (fun q h1 h2 => .inl (hnew3 q (.inr ⟨h1, h2⟩))) (by kernel_rfl) (by kernel_rfl) (by kernel_rfl) ?_
    · rcases hF with hF | hF
      · exact hdj2.row q ⟨h1, h2⟩ (by rw [ksR_split he]; exact .inl hF)
      · rw [ee3] at hF; exact hdis' q hF.1 hF.2 (.inr ⟨h1, h2⟩)
    have hst3 : spl (secells es2) (i * 3 + 2) [.slice a' (l.length + 1) c'] = secells (es2.set i e3) := flat_spl se_len he (e' := e3) (o := 2) (us := [.slice a' (l.length + 1) c']) (by simp) (by rw [ee3, ← hl2]; rfl)
    rw [hst3]
    refine holds_eq (show _ = tabR a2 c2 (es2.set i e3) from by unfold tabR tRow; rw [ksR_set he, List.length_set]) ?_
    have hl3 : (es2.set i e3).length = es2.length := List.length_set ..
    rw [hR]
    intro ids w2 hp hf
    exact tb_fin hf (by rw [List.map_set, hm2, ee3, el2]) hdj3 hnew4 (by rw [hl3]; kernel_rfl)
def validK (seq : Int) : List KpD → Bool
  | [] => true
  | k :: r => decide (seq < k.seq ∧ k.seq ≤ 1099511627776 ∧ 1 ≤ k.kind ∧ k.kind ≤ 3) && validK k.seq r
def validS (last : Int) : List SsD → Bool
  | [] => true
  | s :: r => decide (last < s.no ∧ s.no ≤ 1073741824 ∧ 0 ≤ s.ack ∧ s.ack ≤ 1099511627776 ∧ s.kept.length ≤ 8) && validK s.ack s.kept && validS s.no r
def validT (t : List SsD) : Bool := validS 0 t && decide (t.length ≤ 16)
def VaI (t : List SsD) (vs : Vals) (hx : HX) : Prop := ∃ (k : Nat) (last : Int), k ≤ t.length ∧ validS last (t.drop k) = validS 0 t ∧ vs = ⟨[(k : Int), last], [], [], [], []⟩ ∧ hx = HX.nil
def VbI (l : List KpD) (ack : Int) (vs : Vals) (hx : HX) : Prop := ∃ (j : Nat) (seq : Int), j ≤ l.length ∧ validK seq (l.drop j) = validK ack l ∧ vs = ⟨[(j : Int), seq], [], [], [], []⟩ ∧ hx = HX.nil
set_option maxHeartbeats 2000000 in
theorem tvalid_any (a : Option Addr) (cap : Nat) (es : List SE) (w : World) (H : TbAt w a es) (hl : es.length ≤ 4611686018427387904) : Calls Try.prog 53 #[.slice a es.length cap] w (PureAt w (.bool (validT (es.map SE.s)))) := by
  refine calls_at (tab_ok _) Try.func53 rfl tTValid (ρ := ⟨[], [], [], [es.length, cap], [a]⟩) (ids := []) (hx := HX.nil) rfl (Facts.initP rfl oneNil) ?_
  obtain ⟨t, et⟩ : ∃ t, t = es.map SE.s := ⟨_, rfl⟩
  rw [← et]
  have htl : t.length = es.length := by rw [et, List.length_map]
  refine loop_i (VaI t) (fun vs => t.length - (vs.i.headD 0).toNat) (fun ids w2 hp hf => ⟨HX.nil, HXok.none _ _, 0, 0, Nat.zero_le _, rfl, rfl, rfl⟩) ?_
  rintro vs hx' hcnt ⟨k, last, hk, hv, rfl, rfl⟩
  by_cases hlt : k < es.length
  rotate_left
  · refine br_F (decide ((k : Int) < (es.length : Int))) (by kernel_rfl) (decide_eq_false (by omega)) (pure_done fun ids => ?_)
    obtain rfl : k = t.length := by omega
    rw [List.drop_length] at hv
    refine Eq.trans (b := .bool (decide ((es.length : Int) ≤ 16))) (by kernel_rfl) ?_
    unfold validT
    rw [← hv]
    show _ = Value.bool (true && _)
    rw [Bool.true_and]
    congr 1
    rw [decide_eq_decide]; omega
  refine br_T (decide ((k : Int) < (es.length : Int))) (by kernel_rfl) (decide_eq_true (by omega)) ?_
  obtain ⟨e, he⟩ : ∃ e, es[k]? = some e := ⟨_, List.getElem?_eq_getElem hlt⟩
  have hem := List.mem_of_getElem? he
  have hts : t[k]? = some e.s := by rw [et, List.getElem?_map, he]; rfl
  have hdr : t.drop k = e.s :: t.drop (k + 1) := by
    obtain ⟨h1, h2⟩ := List.getElem?_eq_some_iff.1 hts
    rw [List.drop_eq_getElem_cons h1, h2]
  rw [hdr] at hv
  have hbad : (last < e.s.no ∧ e.s.no ≤ 1073741824 ∧ 0 ≤ e.s.ack ∧ e.s.ack ≤ 1099511627776 ∧ e.s.kept.length ≤ 8 → validK e.s.ack e.s.kept = false) → validT t = false := fun h => by
    unfold validT
    rw [← hv]
    unfold validS
    by_cases hc : last < e.s.no ∧ e.s.no ≤ 1073741824 ∧ 0 ≤ e.s.ack ∧ e.s.ack ≤ 1099511627776 ∧ e.s.kept.length ≤ 8
    · rw [h hc, Bool.and_false, Bool.false_and, Bool.false_and]
    · rw [decide_eq_false hc, Bool.false_and, Bool.false_and, Bool.false_and]
  have fin : validT t = false → ∀ {m : Mem} {ρ : Env} {pre : List Nat} {L : Stack}, (Tree.done (.lf (.bool (.lit false))) m).holds ⟨Try.prog, w, fun _ => False, PureAt w (.bool (validT t))⟩ ρ pre HX.nil L := fun h {m ρ pre L} => by
    rw [h]; exact pure_done (fun ids => rfl)
  obtain ⟨s1, q1⟩ := flat_part se_len H.row he (o := 0) e.cells (fun j u hj => by rw [Nat.zero_add]; exact hj) (by simp [SE.cells])
  refine need_k (a.isSome = true ∧ (0 : Int) ≤ k ∧ (k : Int) < es.length) (by kernel_rfl) ⟨s1, by omega, by omega⟩ ?_
  refine node_ld0 (k := ⟨2, 0, 0, 2, 1⟩) ⟨[e.s.no, e.s.ack], [], [], [e.s.kept.length, e.c], [e.a]⟩ (.pointer (some (((a.getD ⟨0, 0, none⟩).add (k * 3)).add 0))) e.cells (by intros; kernel_rfl) (by intros; kernel_rfl) (q1 _ (fun q => q)) ⟨rfl, oneNil⟩ (by kernel_rfl) oneNil ?_
  by_cases h1 : e.s.no ≤ last
  · exact br_T (decide (e.s.no ≤ last)) (by kernel_rfl) (decide_eq_true h1) (fin (hbad (fun q => by omega)))
  refine br_F (decide (e.s.no ≤ last)) (by kernel_rfl) (decide_eq_false h1) ?_
  by_cases h2 : e.s.no > 1073741824
  · exact br_T (decide (e.s.no > 1073741824)) (by kernel_rfl) (decide_eq_true h2) (fin (hbad (fun q => by omega)))
  refine br_F (decide (e.s.no > 1073741824)) (by kernel_rfl) (decide_eq_false h2) ?_
  by_cases h3 : e.s.ack < 0
  · exact br_T (decide (e.s.ack < 0)) (by kernel_rfl) (decide_eq_true h3) (fin (hbad (fun q => by omega)))
  refine br_F (decide (e.s.ack < 0)) (by kernel_rfl) (decide_eq_false h3) ?_
  by_cases h4 : e.s.ack > 1099511627776
  · exact br_T (decide (e.s.ack > 1099511627776)) (by kernel_rfl) (decide_eq_true h4) (fin (hbad (fun q => by omega)))
  refine br_F (decide (e.s.ack > 1099511627776)) (by kernel_rfl) (decide_eq_false h4) ?_
  by_cases h5 : e.s.kept.length > 8
  · exact br_T (decide ((e.s.kept.length : Int) > 8)) (by kernel_rfl) (decide_eq_true (by omega)) (fin (hbad (fun q => by omega)))
  refine br_F (decide ((e.s.kept.length : Int) > 8)) (by kernel_rfl) (decide_eq_false (by omega)) ?_
  obtain ⟨l, el⟩ : ∃ l, l = e.s.kept := ⟨_, rfl⟩
  rw [← el] at hbad h5
  refine loop_i (VbI l e.s.ack) (fun vs => l.length - (vs.i.headD 0).toNat) (fun ids w2 hp hf => ⟨HX.nil, HXok.none _ _, 0, e.s.ack, Nat.zero_le _, rfl, by kernel_rfl, rfl⟩) ?_
  rintro vs hx' hcnt2 ⟨j, seq, hj, hv2, rfl, rfl⟩
  refine holds_env (ρ' := ⟨[(k : Int), last, e.s.no, e.s.ack, (j : Int), seq], [], [], [es.length, cap, l.length, e.c], [a, e.a]⟩) (by rw [el]; kernel_rfl) ?_
  by_cases hlt2 : j < l.length
  rotate_left
  · refine br_F (decide ((j : Int) < (l.length : Int))) (by kernel_rfl) (decide_eq_false (by omega)) ?_
    obtain rfl : j = l.length := by omega
    rw [List.drop_length] at hv2
    have hwk : IntKind.i64.wrap ((k : Int) + 1) = ((k + 1 : Nat) : Int) := by rw [wrap_i64 (by omega)]; omega
    refine again_V ⟨[((k + 1 : Nat) : Int), e.s.no], [], [], [], []⟩ rfl (fun ids => Eq.trans (b := ⟨[IntKind.i64.wrap ((k : Int) + 1), e.s.no], [], [], [], []⟩) (by kernel_rfl) (by rw [hwk])) HX.nil (fun w2 ids hf => HXok.none _ _) ⟨⟨k + 1, e.s.no, by omega, ?_, rfl, rfl⟩, ?_⟩
    · rw [← hv]
      show _ = (decide _ && validK e.s.ack e.s.kept && validS e.s.no (t.drop (k + 1)))
      rw [← el, ← hv2, decide_eq_true (by omega)]
      show _ = (true && true && _)
      rw [Bool.true_and, Bool.true_and]
    · show t.length - (((k + 1 : Nat) : Int)).toNat < t.length - ((k : Int)).toNat
      omega
  refine br_T (decide ((j : Int) < (l.length : Int))) (by kernel_rfl) (decide_eq_true (by omega)) ?_
  obtain ⟨p, hp⟩ : ∃ p, l[j]? = some p := ⟨_, List.getElem?_eq_getElem hlt2⟩
  have hdr2 : l.drop j = p :: l.drop (j + 1) := by
    obtain ⟨h1, h2⟩ := List.getElem?_eq_some_iff.1 hp
    rw [List.drop_eq_getElem_cons h1, h2]
  rw [hdr2] at hv2
  have hHl : Cells w e.a (kcells l) := by rw [el]; exact H.each e hem
  obtain ⟨s2, q2⟩ := flat_part kp_len hHl hp (o := 0) p.cells (fun j u hj => by rw [Nat.zero_add]; exact hj) (by simp [KpD.cells])
  have hbad2 : ¬ (seq < p.seq ∧ p.seq ≤ 1099511627776 ∧ 1 ≤ p.kind ∧ p.kind ≤ 3) → validT t = false := fun h => hbad fun _ => by
    rw [← hv2]
    unfold validK
    rw [decide_eq_false h, Bool.false_and]
  refine need_k (e.a.isSome = true ∧ (0 : Int) ≤ j ∧ (j : Int) < l.length) (by kernel_rfl) ⟨s2, by omega, by omega⟩ ?_
  refine node_ld0 (k := ⟨6, 0, 0, 4, 2⟩) ⟨[p.seq, p.kind, p.re, p.im], [], [], [], []⟩ (.pointer (some (((e.a.getD ⟨0, 0, none⟩).add (j * 4)).add 0))) p.cells (by intros; kernel_rfl) (by intros; kernel_rfl) (q2 _ (fun q => q)) ⟨rfl, oneNil⟩ (by kernel_rfl) oneNil ?_
  by_cases g1 : p.seq ≤ seq
  · exact br_T (decide (p.seq ≤ seq)) (by kernel_rfl) (decide_eq_true g1) (fin (hbad2 (fun q => by omega)))
  refine br_F (decide (p.seq ≤ seq)) (by kernel_rfl) (decide_eq_false g1) ?_
  by_cases g2 : p.seq > 1099511627776
  · exact br_T (decide (p.seq > 1099511627776)) (by kernel_rfl) (decide_eq_true g2) (fin (hbad2 (fun q => by omega)))
  refine br_F (decide (p.seq > 1099511627776)) (by kernel_rfl) (decide_eq_false g2) ?_
  by_cases g3 : p.kind < 1
  · exact br_T (decide (p.kind < 1)) (by kernel_rfl) (decide_eq_true g3) (fin (hbad2 (fun q => by omega)))
  refine br_F (decide (p.kind < 1)) (by kernel_rfl) (decide_eq_false g3) ?_
  by_cases g4 : p.kind > 3
  · exact br_T (decide (p.kind > 3)) (by kernel_rfl) (decide_eq_true g4) (fin (hbad2 (fun q => by omega)))
  refine br_F (decide (p.kind > 3)) (by kernel_rfl) (decide_eq_false g4) ?_
  have hwj : IntKind.i64.wrap ((j : Int) + 1) = ((j + 1 : Nat) : Int) := by rw [wrap_i64 (by omega)]; omega
  refine again_V ⟨[((j + 1 : Nat) : Int), p.seq], [], [], [], []⟩ rfl (fun ids => Eq.trans (b := ⟨[IntKind.i64.wrap ((j : Int) + 1), p.seq], [], [], [], []⟩) (by kernel_rfl) (by rw [hwj])) HX.nil (fun w2 ids hf => HXok.none _ _) ⟨⟨j + 1, p.seq, by omega, ?_, rfl, rfl⟩, ?_⟩
  · rw [← hv2]
    show _ = (decide _ && validK p.seq (l.drop (j + 1)))
    rw [decide_eq_true (by omega), Bool.true_and]
  · show l.length - (((j + 1 : Nat) : Int)).toNat < l.length - ((j : Int)).toNat
    omega
end Go.Proofs.Ytbedoemdjlollaa

namespace Go.Proofs.Ytbedoemdjlollaa
open Go.Eng
set_option linter.unusedVariables false
set_option linter.unusedSimpArgs false
structure VSe (s : SsD) : Prop where
  no1 : 1 ≤ s.no
  no2 : s.no ≤ 1073741824
  ack1 : 0 ≤ s.ack
  ack2 : s.ack ≤ 1099511627776
  len : s.kept.length ≤ 8
  seqs : Rise (seqsK s.kept)
  each : ∀ k ∈ s.kept, s.ack < k.seq ∧ k.seq ≤ 1099511627776 ∧ 1 ≤ k.kind ∧ k.kind ≤ 3
structure VT (t : List SsD) : Prop where
  len : t.length ≤ 16
  nos : Rise (nosT t)
  each : ∀ s ∈ t, VSe s
theorem rise_cons {x : Int} {l : List Int} : Rise (x :: l) ↔ (∀ y ∈ l, x < y) ∧ Rise l := by rw [rise_pw, rise_pw, List.pairwise_cons]
theorem validK_iff (l : List KpD) : ∀ seq, validK seq l = true ↔ (∀ k ∈ l, seq < k.seq ∧ k.seq ≤ 1099511627776 ∧ 1 ≤ k.kind ∧ k.kind ≤ 3) ∧ Rise (seqsK l) := by
  induction l with
  | nil => intro seq; exact ⟨fun _ => ⟨fun k hk => by simp at hk, fun i j x y _ h => by simp [seqsK] at h⟩, fun _ => rfl⟩
  | cons k r ih =>
    intro seq
    unfold validK
    rw [Bool.and_eq_true, decide_eq_true_iff, ih k.seq]
    show _ ↔ _ ∧ Rise (k.seq :: seqsK r)
    rw [rise_cons]
    constructor
    · rintro ⟨h1, h2, h3⟩
      refine ⟨fun x hx => ?_, fun y hy => ?_, h3⟩
      · rcases List.mem_cons.1 hx with rfl | hx
        · exact h1
        · have := h2 x hx; omega
      · obtain ⟨x, hx, rfl⟩ := List.mem_map.1 hy
        exact (h2 x hx).1
    · rintro ⟨h1, h2, h3⟩
      refine ⟨h1 k List.mem_cons_self, fun x hx => ?_, h3⟩
      have := h1 x (List.mem_cons_of_mem _ hx)
      exact ⟨h2 _ (List.mem_map_of_mem hx), this.2⟩
theorem validS_iff (t : List SsD) : ∀ last, 0 ≤ last → (validS last t = true ↔ (∀ s ∈ t, last < s.no ∧ VSe s) ∧ Rise (nosT t)) := by
  induction t with
  | nil => intro last _; exact ⟨fun _ => ⟨fun k hk => by simp at hk, fun i j x y _ h => by simp [nosT] at h⟩, fun _ => rfl⟩
  | cons s r ih =>
    intro last h0
    unfold validS
    rw [Bool.and_eq_true, Bool.and_eq_true, decide_eq_true_iff, validK_iff]
    show _ ↔ _ ∧ Rise (s.no :: nosT r)
    rw [rise_cons]
    constructor
    · rintro ⟨⟨h1, h2, h3⟩, h4⟩
      obtain ⟨h5, h6⟩ := (ih s.no (by omega)).1 h4
      refine ⟨fun x hx => ?_, fun y hy => ?_, h6⟩
      · rcases List.mem_cons.1 hx with rfl | hx
        · exact ⟨h1.1, by omega, h1.2.1, h1.2.2.1, h1.2.2.2.1, h1.2.2.2.2, h3, h2⟩
        · have := h5 x hx
          exact ⟨by omega, this.2⟩
      · obtain ⟨x, hx, rfl⟩ := List.mem_map.1 hy
        exact (h5 x hx).1
    · rintro ⟨h1, h2, h3⟩
      obtain ⟨h4, h5⟩ := h1 s List.mem_cons_self
      refine ⟨⟨⟨h4, h5.no2, h5.ack1, h5.ack2, h5.len⟩, h5.each, h5.seqs⟩, (ih s.no (by omega)).2 ⟨fun x hx => ⟨h2 _ (List.mem_map_of_mem hx), (h1 x (List.mem_cons_of_mem _ hx)).2⟩, h3⟩⟩
theorem validT_iff (t : List SsD) : validT t = true ↔ VT t := by
  unfold validT
  rw [Bool.and_eq_true, decide_eq_true_iff, validS_iff t 0 (Int.le_refl _)]
  exact ⟨fun h => ⟨h.2, h.1.2, fun s hs => (h.1.1 s hs).2⟩, fun h => ⟨⟨fun s hs => ⟨by have := (h.each s hs).no1; omega, h.each s hs⟩, h.nos⟩, h.len⟩⟩
theorem VT.ok {t : List SsD} (h : VT t) : TOk t := ⟨by have := h.len; omega, fun s hs => by have := (h.each s hs).len; omega, h.nos, fun s hs => (h.each s hs).seqs⟩
theorem VT.nil : VT [] := ⟨Nat.zero_le _, fun i j x y _ h => by simp [nosT] at h, fun s hs => by simp at hs⟩
theorem pos_lt {ks : List Int} {t : Int} : ∀ {x : Nat} {k : Int}, x < posI ks t → ks[x]? = some k → k < t := by
  induction ks with
  | nil => intro x k h; simp [posI] at h
  | cons a r ih =>
    intro x k h hk
    unfold posI at h
    rw [List.takeWhile_cons] at h
    split at h
    · rename_i ha
      cases x with
      | zero => cases hk; exact of_decide_eq_true ha
      | succ x => exact ih (x := x) (by rw [List.length_cons] at h; unfold posI; omega) (by simpa using hk)
    · simp at h
theorem pos_at {ks : List Int} {t k : Int} (h : ks[posI ks t]? = some k) : t ≤ k := by
  induction ks with
  | nil => simp [posI] at h
  | cons a r ih =>
    unfold posI at h
    rw [List.takeWhile_cons] at h
    split at h
    · rw [List.length_cons, List.getElem?_cons_succ] at h
      exact ih h
    · rename_i ha
      cases h
      have : ¬ k < t := fun q => ha (decide_eq_true q)
      omega
theorem pos_ge {ks : List Int} {t : Int} (hr : Rise ks) {x : Nat} {k : Int} (h : posI ks t ≤ x) (hk : ks[x]? = some k) : t ≤ k := by
  have hx := (List.getElem?_eq_some_iff.1 hk).1
  obtain ⟨k0, h0⟩ : ∃ k0, ks[posI ks t]? = some k0 := ⟨_, List.getElem?_eq_getElem (by omega)⟩
  have h1 := pos_at h0
  rcases Nat.lt_or_ge (posI ks t) x with q | q
  · have := hr _ _ _ _ q h0 hk; omega
  · have : x = posI ks t := by omega
    subst this; rw [h0] at hk; cases hk; exact h1
theorem pos_gt {ks : List Int} {t : Int} (hr : Rise ks) (hh : hitI ks t = false) {x : Nat} {k : Int} (h : posI ks t ≤ x) (hk : ks[x]? = some k) : t < k := by
  have h1 := pos_ge hr h hk
  have hx := (List.getElem?_eq_some_iff.1 hk).1
  rcases Int.lt_or_eq_of_le h1 with q | q
  · exact q
  · subst q
    exfalso
    obtain ⟨k0, h0⟩ : ∃ k0, ks[posI ks t]? = some k0 := ⟨_, List.getElem?_eq_getElem (by omega)⟩
    have h2 := pos_at h0
    rcases Nat.lt_or_ge (posI ks t) x with q | q
    · have := hr _ _ _ _ q h0 hk; omega
    · have : x = posI ks t := by omega
      rw [this] at hk
      have := hit_iff.2 hk
      rw [hh] at this; cases this
theorem rise_ins {ks : List Int} {t : Int} (hr : Rise ks) (hh : hitI ks t = false) : Rise (insAt ks (posI ks t) t) := by
  have hle := pos_le ks t
  intro i j x y hij hx hy
  rw [insAt_get _ hle] at hx hy
  split at hx
  · split at hy
    · exact hr _ _ _ _ hij hx hy
    · split at hy
      · cases hy; rename_i h1 _ _; exact pos_lt h1 hx
      · exact hr _ _ _ _ (by omega) hx hy
  · split at hx
    · cases hx
      rw [if_neg (by omega), if_neg (by omega)] at hy
      exact pos_gt hr hh (by omega) hy
    · rw [if_neg (by omega), if_neg (by omega)] at hy
      exact hr _ _ _ _ (by omega) hx hy
theorem nosT_set {t : List SsD} {i : Nat} {s s' : SsD} (h : t[i]? = some s) (e : s'.no = s.no) : nosT (t.set i s') = nosT t := by
  unfold nosT
  rw [List.map_set, e]
  refine List.ext_getElem? fun j => ?_
  by_cases hj : i = j
  · subst hj
    obtain ⟨h1, h2⟩ := List.getElem?_eq_some_iff.1 h
    rw [List.getElem?_set_self (by rw [List.length_map]; exact h1), List.getElem?_map, h]; rfl
  · rw [List.getElem?_set_ne hj]
theorem VT.set {t : List SsD} (h : VT t) {i : Nat} {s s' : SsD} (hs : t[i]? = some s) (e : s'.no = s.no) (h' : VSe s') : VT (t.set i s') :=
  ⟨by rw [List.length_set]; exact h.len, by rw [nosT_set hs e]; exact h.nos, fun x hx => by
    rcases List.mem_or_eq_of_mem_set hx with hx | hx
    · exact h.each x hx
    · rw [hx]; exact h'⟩
theorem VT.tab {t : List SsD} (h : VT t) {sess : Int} (h1 : 1 ≤ sess) (h2 : sess ≤ 1073741824) (hn : ¬ (hitI (nosT t) sess = false ∧ 16 ≤ t.length)) : VT (tabS t sess) := by
  unfold tabS
  rcases Bool.eq_false_or_eq_true (hitI (nosT t) sess) with hh | hh
  · rw [if_pos hh]; exact h
  · rw [if_neg (by rw [hh]; decide)]
    have hle : posI (nosT t) sess ≤ t.length := by
      have := pos_le (nosT t) sess
      unfold nosT at this ⊢
      rwa [List.length_map] at this
    refine ⟨?_, ?_, fun x hx => ?_⟩
    · rw [insAt_len _ hle]
      have : ¬ 16 ≤ t.length := fun q => hn ⟨hh, q⟩
      omega
    · have := rise_ins h.nos hh
      unfold nosT at this ⊢
      rw [insAt_map]; exact this
    · rcases insAt_mem.1 hx with hx | hx
      · exact h.each x hx
      · rw [hx]
        exact ⟨h1, h2, Int.le_refl _, (by decide : (0 : Int) ≤ 1099511627776), Nat.zero_le _, fun i j x y _ h => by simp [seqsK] at h, fun k hk => by simp at hk⟩
theorem VSe.upd {s : SsD} (h : VSe s) {ack : Int} (h2 : ack ≤ 1099511627776) : VSe (updS ack s) := by
  have ha := h.ack1
  have hb := h.ack2
  refine ⟨h.no1, h.no2, ?_, ?_, Nat.le_trans (List.length_filter_le _ _) h.len, rise_filter h.seqs _, fun k hk => ?_⟩
  · show 0 ≤ max s.ack ack
    omega
  · show max s.ack ack ≤ _
    omega
  · obtain ⟨h3, h4⟩ := List.mem_filter.1 hk
    exact ⟨of_decide_eq_true h4, (h.each k h3).2⟩
theorem ask_cases (t : List SsD) (sess seq ack : Int) : (hitI (nosT t) sess = false ∧ 16 ≤ t.length ∧ askV t sess seq ack = ⟨t, 5, 0, 0, true⟩) ∨
    (¬ (hitI (nosT t) sess = false ∧ 16 ≤ t.length) ∧ ∃ s, (tabS t sess)[posI (nosT t) sess]? = some s ∧ s.no = sess ∧ (hitI (nosT t) sess = true → t[posI (nosT t) sess]? = some s) ∧ (hitI (nosT t) sess = false → s = ⟨sess, 0, []⟩) ∧
      askV t sess seq ack = askS ((tabS t sess).set (posI (nosT t) sess) (updS ack s)) (updS ack s) seq) := by
  unfold askV
  by_cases h : hitI (nosT t) sess = false ∧ 16 ≤ t.length
  · rw [if_pos h]; exact .inl ⟨h.1, h.2, rfl⟩
  · rw [if_neg h]
    obtain ⟨s, hs, h1, h2, h3⟩ := tabS_at t sess
    refine .inr ⟨h, s, hs, h1, h2, h3, ?_⟩
    rw [hs]
theorem askS_t (t2 : List SsD) (s : SsD) (seq : Int) : (askS t2 s seq).t = t2 := by
  unfold askS
  split
  · rfl
  · split
    · split <;> rfl
    · split <;> rfl
theorem VT.ask {t : List SsD} (h : VT t) {sess seq ack : Int} (h1 : 1 ≤ sess) (h2 : sess ≤ 1073741824) (h3 : ack ≤ 1099511627776) : VT (askV t sess seq ack).t := by
  rcases ask_cases t sess seq ack with ⟨_, _, e⟩ | ⟨hn, s, hs, hsn, _, _, e⟩
  · rw [e]; exact h
  · rw [e, askS_t]
    have ht := h.tab h1 h2 hn
    exact ht.set hs rfl ((ht.each s (List.mem_of_getElem? hs)).upd h3)
theorem VT.keep {t : List SsD} (h : VT t) {sess seq k re im : Int} (h1 : seq ≤ 1099511627776) (h2 : 1 ≤ k) (h3 : k ≤ 3) : VT (keepV t sess seq k re im) := by
  unfold keepV
  split
  · exact h
  · split
    · exact h
    · rename_i s hs
      split
      · exact h
      · rename_i hc
        have hv := h.each s (List.mem_of_getElem? hs)
        have hh : hitI (seqsK s.kept) seq = false := by
          rcases Bool.eq_false_or_eq_true (hitI (seqsK s.kept) seq) with q | q
          · exact absurd (.inl q) hc
          · exact q
        have ha : ¬ seq ≤ s.ack := fun q => hc (.inr (.inl q))
        have h8 : ¬ 8 ≤ s.kept.length := fun q => hc (.inr (.inr q))
        have hle : posI (seqsK s.kept) seq ≤ s.kept.length := by
          have := pos_le (seqsK s.kept) seq
          unfold seqsK at this ⊢
          rwa [List.length_map] at this
        refine h.set hs rfl ⟨hv.no1, hv.no2, hv.ack1, hv.ack2, ?_, ?_, fun x hx => ?_⟩
        · show (insAt _ _ _).length ≤ 8
          rw [insAt_len _ hle]; omega
        · have := rise_ins hv.seqs hh
          unfold seqsK at this ⊢
          rw [insAt_map]; exact this
        · rcases insAt_mem.1 hx with hx | hx
          · exact hv.each x hx
          · rw [hx]; exact ⟨by show s.ack < seq; omega, h1, h2, h3⟩
end Go.Proofs.Ytbedoemdjlollaa

namespace Go.Eng
open Go.RowKit Go.Syn Go.MapKept
set_option linter.unusedVariables false
set_option linter.unusedSimpArgs false
section
variable {α β : Type}
def mlk (m : List (Int × α)) (k : Int) : Option α := (m.find? (fun p => p.1 == k)).map (·.2)
def mput (m : List (Int × α)) (k : Int) (v : α) : List (Int × α) := if (mlk m k).isSome then m.map (fun p => if p.1 = k then (k, v) else p) else m ++ [(k, v)]
def mmap (f : α → β) (m : List (Int × α)) : List (Int × β) := m.map fun p => (p.1, f p.2)
def NdK (m : List (Int × α)) : Prop := (m.map (·.1)).Nodup
theorem mlk_nil (k : Int) : mlk ([] : List (Int × α)) k = none := rfl
theorem mlk_cons (p : Int × α) (m : List (Int × α)) (k : Int) : mlk (p :: m) k = if p.1 = k then some p.2 else mlk m k := by
  unfold mlk
  rw [List.find?_cons]
  by_cases h : p.1 = k
  · simp [h]
  · rw [if_neg h, show (p.1 == k) = false by simpa using h]
theorem mlk_map (f : α → β) (m : List (Int × α)) (k : Int) : mlk (mmap f m) k = (mlk m k).map f := by
  induction m with
  | nil => rfl
  | cons p m ih =>
    show mlk ((p.1, f p.2) :: mmap f m) k = _
    rw [mlk_cons, mlk_cons]
    by_cases h : p.1 = k
    · simp [h]
    · simp [h, ih]
theorem mput_map (f : α → β) (m : List (Int × α)) (k : Int) (v : α) : mput (mmap f m) k (f v) = mmap f (mput m k v) := by
  unfold mput
  rw [mlk_map]
  cases h : mlk m k with
  | none => simp [mmap]
  | some x =>
    simp only [Option.map_some, Option.isSome_some, if_true]
    unfold mmap
    rw [List.map_map, List.map_map]
    refine List.map_congr_left fun p _ => ?_
    simp only [Function.comp]
    by_cases e : p.1 = k
    · simp [e]
    · simp [e]
theorem mlk_none_iff {m : List (Int × α)} {k : Int} : mlk m k = none ↔ ∀ p ∈ m, p.1 ≠ k := by
  induction m with
  | nil => simp [mlk_nil]
  | cons p m ih =>
    rw [mlk_cons]
    by_cases h : p.1 = k
    · simp [h]
    · simp [h, ih]
theorem mlk_mem {m : List (Int × α)} {k : Int} {v : α} (h : mlk m k = some v) : (k, v) ∈ m := by
  induction m with
  | nil => cases h
  | cons p m ih =>
    rw [mlk_cons] at h
    split at h
    · rename_i e; cases h; rw [← e]; exact List.mem_cons_self
    · exact List.mem_cons_of_mem _ (ih h)
theorem mem_mlk {m : List (Int × α)} {k : Int} {v : α} (hn : NdK m) (h : (k, v) ∈ m) : mlk m k = some v := by
  induction m with
  | nil => cases h
  | cons p m ih =>
    simp only [NdK, List.map_cons, List.nodup_cons] at hn
    rw [mlk_cons]
    rcases List.mem_cons.1 h with rfl | h
    · simp
    · rw [if_neg fun e => hn.1 (List.mem_map.2 ⟨(k, v), h, e.symm⟩)]
      exact ih hn.2 h
theorem mput_mem {m : List (Int × α)} {k : Int} {v : α} {p : Int × α} (h : p ∈ mput m k v) : p = (k, v) ∨ (p ∈ m ∧ p.1 ≠ k) := by
  unfold mput at h
  split at h
  · obtain ⟨q, hq, rfl⟩ := List.mem_map.1 h
    by_cases e : q.1 = k
    · rw [if_pos e]; exact .inl rfl
    · rw [if_neg e]; exact .inr ⟨hq, e⟩
  · rename_i hn
    have hn : mlk m k = none := by simpa using hn
    rcases List.mem_append.1 h with h | h
    · exact .inr ⟨h, mlk_none_iff.1 hn p h⟩
    · exact .inl (List.mem_singleton.1 h)
theorem NdK.filter {m : List (Int × α)} (h : NdK m) (f : Int × α → Bool) : NdK (m.filter f) := (List.Sublist.map _ List.filter_sublist).nodup h
theorem NdK.put {m : List (Int × α)} (h : NdK m) (k : Int) (v : α) : NdK (mput m k v) := by
  unfold mput
  split
  · have : (m.map fun p => if p.1 = k then (k, v) else p).map (·.1) = m.map (·.1) := by
      rw [List.map_map]
      refine List.map_congr_left fun p _ => ?_
      simp only [Function.comp]
      by_cases e : p.1 = k
      · simp [e]
      · simp [e]
    unfold NdK; rw [this]; exact h
  · rename_i hn
    have hn : mlk m k = none := by simpa using hn
    unfold NdK
    rw [List.map_append]
    refine List.nodup_append.2 ⟨h, by simp, ?_⟩
    intro a ha b hb
    simp only [List.map_cons, List.map_nil, List.mem_singleton] at hb
    subst hb
    obtain ⟨p, hp, rfl⟩ := List.mem_map.1 ha
    exact mlk_none_iff.1 hn p hp
theorem mput_len (m : List (Int × α)) (k : Int) (v : α) : (mput m k v).length = if (mlk m k).isSome then m.length else m.length + 1 := by
  unfold mput
  split
  · rw [List.length_map]
  · rw [List.length_append]; rfl
theorem mput_same {m : List (Int × α)} {k : Int} {v : α} (hn : NdK m) (h : mlk m k = some v) : mput m k v = m := by
  unfold mput
  rw [h]
  simp only [Option.isSome_some, if_true]
  refine (List.map_congr_left fun p hp => ?_).trans (List.map_id m)
  by_cases e : p.1 = k
  · rw [if_pos e]
    have : mlk m p.1 = some p.2 := mem_mlk hn hp
    rw [e, h] at this
    rw [Option.some.inj this, ← e]; rfl
  · rw [if_neg e]; rfl
theorem vlk_is (m : List (Int × Value)) (k : Int) : vlk m k = mlk m k := rfl
theorem vput_is (m : List (Int × Value)) (k : Int) (v : Value) : vput m k v = mput m k v := rfl
end
end Go.Eng

namespace Go.Eng
open Go.RowKit Go.Syn Go.MapKept
set_option linter.unusedVariables false
set_option linter.unusedSimpArgs false
section
variable {C : Cfg} {ρ : Env} {pre : List Nat} {hx rest : HX} {L : Stack} {m m' : Mem} {ty : Nat} {ps : List (Nat × SV)} {t : Tree}
theorem node_vlen {mt kt et : TypeId} {xo : Operand} {ac : Go.Call} {r : SV} (vs : Vals) (hac : ac = { callee := .builtin .len, args := #[xo], argTypes := #[mt] }) (b : Nat) (mm : List (Int × Value)) (hx_ : ∀ w, hx.X w → VMap w b mm) (hmo : ∀ ids, envOf ρ ids ps xo = .map (some b))
    (ht : C.P.underlying mt = some (.map kt et)) (hr : ∀ ids, r.den (ρ.add vs) ids = .int .i64 (mm.length : Int)) (hl : mm.length ≤ 4611686018427387904) (hhp : m'.hp = m.hp) (hfit : hpFits m.c m.hp.length m.hp = true) (hc : (ρ.add vs).cnt = m'.c) (h1 : ∀ v, v ∈ vs.v → v.oneCell' = true)
    (h : t.holds C (ρ.add vs) pre hx L) : (Tree.gen (.call ac) ty ps m (some r) m' t).holds C ρ pre hx L := by
  subst hac
  refine node_gpure (V := .int .i64 (mm.length : Int)) vs (fun ids w hp hf => ?_) hr hhp hfit hc h1 h
  obtain ⟨es, clock, h1, h2, h3⟩ := hx_ w hf.x
  have hl2 : es.size = mm.length := by
    have := congrArg List.length h3
    rwa [List.length_map, List.length_map, Array.length_toList] at this
  have hg : goInt es.size = Value.int .i64 (mm.length : Int) := by
    unfold goInt
    rw [hl2]
  simp only [execOp, resolve, invoke, builtin, hmo, Sem.run_bind, Sem.run_pure, Result.andThen_ok, List.map_toArray, List.map_cons, List.map_nil]
  simp [Builtin.len_, run_underlying ht, MapKept.run_getObj_map h1, Result.andThen, hg]
end
end Go.Eng

namespace Go.Eng
open Go.RowKit Go.Syn Go.MapKept
set_option linter.unusedVariables false
set_option linter.unusedSimpArgs false
structure Tw (w : World) (sz e : Nat) (a : Option Addr) (n cap : Nat) (xs : List Value) : Prop where
  len : xs.length = n * sz
  le : n ≤ cap
  ex : cap ≠ 0 → ∃ (g off : Nat) (cur : List Value), a = some ⟨g, off * sz, none⟩ ∧ w.heap[g]? = some (.cells cur.toArray e (0, 0)) ∧ cap ≤ maxLen ∧ cur.length = (off + cap) * sz ∧ (cur.drop (off * sz)).take (n * sz) = xs
section
variable {P : Program}
end
section
variable {C : Cfg} {ρ : Env} {pre : List Nat} {hx hx' rest : HX} {L : Stack} {m m' : Mem} {ty : Nat} {ps : List (Nat × SV)} {t : Tree} {ids : List Nat} {w w' : World} {args : List SV} {r : SV}
end
end Go.Eng
namespace Go.Eng
open Go.RowKit Go.Syn Go.MapKept
set_option linter.unusedVariables false
set_option linter.unusedSimpArgs false
def Dj (xs : List HX) : Prop := ∀ (i j : Nat) (a b : HX), xs[i]? = some a → xs[j]? = some b → i ≠ j → ∀ k, a.F k → ¬ b.F k
theorem Dj.set {xs : List HX} (h : Dj xs) {i : Nat} {a a' : HX} (hi : xs[i]? = some a) (hF : ∀ k, a'.F k → a.F k ∨ ∀ b ∈ xs, ¬ b.F k) : Dj (xs.set i a') := by
  have key : ∀ (j : Nat) (b : HX), xs[j]? = some b → i ≠ j → ∀ k, a'.F k → ¬ b.F k := fun j b hj hij k hk hb => by
    rcases hF k hk with q | q
    · exact h i j a b hi hj hij k q hb
    · exact q b (List.mem_of_getElem? hj) hb
  intro p q x y hx hy hpq k hk hk2
  rw [List.getElem?_set] at hx hy
  split at hx
  · rename_i e
    subst e
    rw [if_neg hpq] at hy
    split at hx
    · cases hx
      exact key q y hy hpq k hk hk2
    · cases hx
  · rename_i e
    split at hy
    · rename_i e2
      subst e2
      split at hy
      · cases hy
        exact key p x hx e k hk2 hk
      · cases hy
    · exact h p q x y hx hy hpq k hk hk2
section
variable {C : Cfg} {ρ : Env} {pre : List Nat} {hx hx' rest h0 : HX} {L : Stack} {m m' : Mem} {ty : Nat} {ps : List (Nat × SV)} {t : Tree} {ids : List Nat} {w w' : World} {args : List SV} {r : SV} {f : Nat}
theorem node_touch {t0 : Nat} {cs0 cs' : List LV} {hp0 : List (Nat × List LV)} (AS : List Nat → Array Value) (Q : Vals → HX → Prop) (hhp : m.hp = (t0, cs0) :: hp0) (hhp' : m'.hp = (t0, cs') :: hp0) (hargs : ∀ ids, (args.map (SV.den ρ ids)).toArray = AS ids)
    (hcall : ∀ ids w, pre <+: ids → Facts C m ρ ids (rest.and h0) w → Calls C.P f (AS ids) w (fun e w' => ∃ vs h', Q vs h' ∧ e = .returned (r.den (ρ.add vs) ids) ∧ w'.heap[idAt ids 0]? = some (.cells (cellsDen (ρ.add vs) ids cs').toArray t0 (0, 0)) ∧ h'.X w' ∧ (∀ k, h'.F k → (h0.F k ∨ w.heap.size ≤ k) ∧ k < w'.heap.size) ∧ Chg (fun k => k = idAt ids 0 ∨ h0.F k) w w'))
    (hdis : ∀ k, h0.F k → ¬ rest.F k ∧ (C.W.heap.size ≤ k ∨ C.M k)) (hfit : hpFits m.c m.hp.length m.hp = true) (hc : ∀ vs h', Q vs h' → (ρ.add vs).cnt = m'.c ∧ ∀ v, v ∈ vs.v → v.oneCell' = true)
    (h : ∀ vs h', Q vs h' → (∀ k, h'.F k → ¬ rest.F k ∧ (C.W.heap.size ≤ k ∨ C.M k)) → t.holds C (ρ.add vs) pre (rest.and h') L) : (Tree.call f args m r m' t).holds C ρ pre (rest.and h0) L := by
  intro ids w hp hf
  rw [hargs]
  refine (hcall ids w hp hf).mono ?_
  rintro e w' ⟨vs, h', hQ, rfl, hb0, hX, hge, hch⟩
  have hm0 : idAt ids 0 ∈ ids := idAt_mem (ids := ids) (n := 0) (by rw [hf.len, hhp]; simp)
  have hadd : ∀ (cs : List LV) k ty', m.hp[k]? = some (ty', cs) → cellsDen (ρ.add vs) ids cs = cellsDen ρ ids cs := fun cs k ty' hk => cellsDen_add hf.cnt.cnt (List.prefix_refl _) hf.len (List.all_eq_true.1 hfit _ (List.mem_of_getElem? hk))
  refine ⟨vs, ids, rest.and h', rfl, List.prefix_refl _, ⟨by rw [hf.len, hhp, hhp']; rfl, hf.nod, fun k t2 cs2 hk => ?_, hf.own, ?_, ⟨rest.loc w w' hf.x.1 fun k hk => hch.block k (hf.sep k (.inl hk)).1 fun q => ?_, hX⟩, fun k hk => ?_, ⟨(hc _ _ hQ).1, fun v hv => ?_⟩⟩, holds_pre t hp (h vs h' hQ fun k hk => ?_)⟩
  · cases k with
    | zero =>
      rw [hhp'] at hk
      simp only [List.getElem?_cons_zero, Option.some.injEq, Prod.mk.injEq] at hk
      obtain ⟨rfl, rfl⟩ := hk
      exact hb0
    | succ k =>
      have hk2 : m.hp[k + 1]? = some (t2, cs2) := by rw [hhp]; rw [hhp'] at hk; exact hk
      have hlt : k + 1 < m.hp.length := by
        rcases Nat.lt_or_ge (k + 1) m.hp.length with q | q
        · exact q
        · rw [List.getElem?_eq_none q] at hk2; cases hk2
      have hmem := idAt_mem (ids := ids) (n := k + 1) (hf.len ▸ hlt)
      have hne : idAt ids (k + 1) ≠ idAt ids 0 := fun e => by
        have := idAt_inj hf.nod (by rw [hf.len]; exact hlt) (by rw [hf.len, hhp]; simp) e
        omega
      rw [hch.block _ (hf.id_lt hmem) (fun e2 => e2.elim hne fun q => (hf.sep _ (.inr q)).2 hmem), hf.blk (k + 1) t2 cs2 hk2, hadd cs2 _ _ hk2]
  · refine ⟨hch.os.trans hf.chg.os, hch.tape.trans hf.chg.tape, hch.output.trans hf.chg.output, Nat.le_trans hf.chg.size hch.size, fun k hk hM => ?_⟩
    rw [hch.block k (Nat.lt_of_lt_of_le hk hf.chg.size) (fun e => ?_)]
    · exact hf.chg.block k hk hM
    · rcases e with rfl | e
      · rcases hf.own _ hm0 with g | g
        · omega
        · exact hM g
      · rcases (hdis _ e).2 with g | g
        · omega
        · exact hM g
  · rcases q with rfl | q
    · exact (hf.sep _ (.inl hk)).2 hm0
    · exact (hdis k q).1 hk
  · rcases hk with hk | hk
    · exact ⟨Nat.lt_of_lt_of_le (hf.sep k (.inl hk)).1 hch.size, (hf.sep k (.inl hk)).2⟩
    · refine ⟨(hge k hk).2, fun hm => ?_⟩
      rcases (hge k hk).1 with q | q
      · exact (hf.sep k (.inr q)).2 hm
      · have := hf.id_lt hm; omega
  · simp only [Env.add, List.mem_append] at hv
    exact hv.elim (hf.cnt.one v) ((hc _ _ hQ).2 v)
  · rcases (hge k hk).1 with q | q
    · exact hdis k q
    · refine ⟨fun z => ?_, .inl (Nat.le_trans hf.chg.size q)⟩
      have := (hf.sep k (.inl z)).1
      omega
end
end Go.Eng

namespace Go.Proofs.Ytbedoemdjlollaa
open Go.Eng
end Go.Proofs.Ytbedoemdjlollaa

namespace Go.Eng
open Go.RowKit Go.Syn
set_option linter.unusedVariables false
section
variable {C : Cfg} {ρ : Env} {pre : List Nat} {hx : HX} {L : Stack} {m m' : Mem} {args : List SV} {r : SV} {t : Tree}
end
end Go.Eng
namespace Go.Proofs.Ytbedoemdjlollaa
open Go.ChangeShapes Go.WideShapes Go.ChangeAt Go.RowKit Go.Syn Go.Eng
set_option linter.unusedVariables false
theorem ints_blk {P : Program} {W w : World} {M : Nat → Prop} {R : Ending → World → Prop} {m : Mem} {ρ : Env} {ids : List Nat} {hx : HX} (hf : Facts ⟨P, W, M, R⟩ m ρ ids hx w) (n ty : Nat) (cs : List LV) (xs : List Int) (h : m.hp[n]? = some (ty, cs)) (hc : cellsDen ρ ids cs = xs.map (Value.int .i64)) (hl : xs.length ≤ 1000) (hx : ∀ x ∈ xs, I64 x) : Ints w (some ⟨idAt ids n, 0, none⟩) xs :=
  Ints.of_cells (by omega) hx (blk_cells (ty := ty) (by have := hf.blk n ty cs h; rw [hc] at this; exact this))
end Go.Proofs.Ytbedoemdjlollaa

namespace Go.Proofs.Ytbedoemdjlollaa
open Go.ChangeShapes Go.WideShapes Go.ChangeAt Go.RowKit Go.Syn Go.Eng
set_option linter.unusedVariables false
set_option linter.unusedSimpArgs false
set_option maxRecDepth 100000
end Go.Proofs.Ytbedoemdjlollaa

namespace Go.Proofs.Ytbedoemdjlollaa
open Go.ChangeShapes Go.WideShapes Go.ChangeAt Go.RowKit Go.Syn Go.Eng
set_option linter.unusedVariables false
set_option linter.unusedSimpArgs false
set_option maxRecDepth 100000
end Go.Proofs.Ytbedoemdjlollaa

namespace Go.Proofs.Ytbedoemdjlollaa
open Go.ChangeShapes Go.WideShapes Go.ChangeAt Go.RowKit Go.Syn Go.Eng
set_option linter.unusedVariables false
set_option linter.unusedSimpArgs false
set_option maxRecDepth 100000
theorem Dj.snoc {a a' : Option Addr} {c c' : Nat} {ds : List SE} {e : SE} (h : Dj a c ds) (h1 : ∀ k, (kRow e).F k → ¬ (ksR ds).F k) (h2 : ∀ k, c' ≠ 0 → abk a' = some k → ¬ (ksR (ds ++ [e])).F k) : Dj a' c' (ds ++ [e]) := by
  have at_ : ∀ {j : Nat} {x : SE}, (ds ++ [e])[j]? = some x → ds[j]? = some x ∨ (j = ds.length ∧ x = e) := fun {j x} hx => by
    rw [List.getElem?_append] at hx
    split at hx
    · exact .inl hx
    · have h0 : j - ds.length < 1 := by
        rcases Nat.lt_or_ge (j - ds.length) 1 with z | z
        · exact z
        · rw [List.getElem?_eq_none (by simpa using z)] at hx; cases hx
      exact .inr ⟨by omega, List.mem_singleton.1 (List.mem_of_getElem? hx)⟩
  refine ⟨fun i j x y hij hx hy k hk1 hk2 => ?_, fun x hx k hk hF => h2 k hF.1 hF.2 ⟨x, hx, hk⟩⟩
  rcases at_ hx with hx2 | ⟨e1, e2⟩
  · rcases at_ hy with hy2 | ⟨e3, e4⟩
    · exact h.two i j x y hij hx2 hy2 k hk1 hk2
    · exact h1 k (e4 ▸ hk2) ⟨x, List.mem_of_getElem? hx2, hk1⟩
  · rcases at_ hy with hy2 | ⟨e3, e4⟩
    · exact h1 k (e2 ▸ hk1) ⟨y, List.mem_of_getElem? hy2, hk2⟩
    · exact hij (e1.trans e3.symm)
end Go.Proofs.Ytbedoemdjlollaa

namespace Go.Proofs.Ytbedoemdjlollaa
open Go.Eng
end Go.Proofs.Ytbedoemdjlollaa

namespace Go.Proofs.Ytbedoemdjlollaa
open Go.Eng
set_option maxRecDepth 100000
abbrev tJMergeb0 : List LV := [(tVi 3), (tLi 0), (tLi 0), (tVi 5), (tSl 4 8 9), (tSl 5 10 11)]
abbrev tJMergeb1 : List LV := [(tVi 4), (tVi 5), (tVi 6), (tVi 7), (tSl 2 4 5), (tSl 3 6 7)]
abbrev tJMergem0 : Mem := ⟨[(39, tJMergeb1), (35, [(tVi 8), (tSl 4 8 9), (tSl 5 10 11)])], ⟨10, 1, 1, 12, 6⟩⟩
abbrev tJMergem1 : Mem := ⟨[(39, tJMergeb1), (35, [(tVi 8), (tSl 4 8 9), (tSl 5 10 11)])], ⟨10, 2, 1, 12, 6⟩⟩
abbrev tJMergem2 : Mem := ⟨[(39, tJMergeb1), (35, [(tVi 8), (tSl 4 8 9), (tSl 5 10 11)])], ⟨9, 1, 1, 12, 6⟩⟩
set_option maxRecDepth 100000 in
theorem tJMerge : (runF ⟨tt, fns, { cur := [], loops := [(4, ⟨[(17, .int .i64), (5, .int .i64)], []⟩), (7, ⟨[(23, .int .i64), (5, .int .i64)], []⟩), (22, ⟨[(12, .sl), (13, .int .i64)], []⟩)] }⟩ (Try.f11.body.getD .skip) Try.f11.results.toList (entry Try.f11.ntmps [.lf (.sl 0 (.var 0) (.var 1))] [] ⟨0, 0, 0, 2, 1⟩)) =
  (.gen (.makeMap 74 .none) 74 [] ⟨[], ⟨0, 0, 0, 2, 1⟩⟩ (.some (.lf (.val 0))) ⟨[], ⟨0, 0, 1, 2, 1⟩⟩ (.loop 4 ⟨[(.lit 0), (.lit 0)], [], [], [], []⟩ ⟨[], ⟨0, 0, 1, 2, 1⟩⟩ ⟨[], ⟨2, 0, 1, 2, 1⟩⟩ (.br (.cmp .lss (.var 0) (.nat 0)) (.need (.inb 0 (.var 0) (.nat 0)) (.ld .false (.adr 0 (.var 0) 1 0) [(tSl 1 2 3)] ⟨[], ⟨2, 0, 1, 2, 1⟩⟩ ⟨[], ⟨2, 0, 1, 4, 2⟩⟩ (.loop 7 ⟨[(.lit 0), (.var 1)], [], [], [], []⟩ ⟨[], ⟨2, 0, 1, 4, 2⟩⟩ ⟨[], ⟨4, 0, 1, 4, 2⟩⟩ (.br (.cmp .lss (.var 2) (.nat 2)) (.need (.inb 1 (.var 2) (.nat 2)) (.ld .false (.adr 1 (.var 2) 6 0) tJMergeb1 ⟨[], ⟨4, 0, 1, 4, 2⟩⟩ ⟨[], ⟨8, 0, 1, 8, 4⟩⟩ (.gen (.lookup 74 (.tmp 28) (.tmp 30) .true) 75 [(28, (.lf (.val 0))), (30, (.lf (tVi 4)))] ⟨[(39, tJMergeb1)], ⟨8, 0, 1, 8, 4⟩⟩ (.some (.tup [(.true, [(tVi 8), (tSl 4 8 9), (tSl 5 10 11)]), (.false, [(.bool (.var 0))])])) ⟨[(39, tJMergeb1)], ⟨9, 1, 1, 12, 6⟩⟩ (.br (.cmp .lss (.var 4) (.lit 1)) (.done (.tup [(.false, [.nilsl]), (.false, [(tLi 1)])]) tJMergem2) (.call 24 [(.agg [(tVi 7), (tSl 2 4 5), (tSl 3 6 7)])] tJMergem2 (.lf (tVi 9)) tJMergem0 (.br (.cmp .neq (.var 9) (.lit 0)) (.done (.tup [(.false, [.nilsl]), (.false, [(tLi 1)])]) tJMergem0) (.br (.var 0) (.call 25 [(.agg [(tVi 8), (tSl 4 8 9), (tSl 5 10 11)]), (.agg [(tVi 7), (tSl 2 4 5), (tSl 3 6 7)])] tJMergem0 (.lf (.bool (.var 1))) tJMergem1 (.br (.not (.var 1)) (.done (.tup [(.false, [.nilsl]), (.false, [(tLi 63)])]) tJMergem1) (.gen (.mapUpdate 74 (.tmp 53) (.tmp 55) (.tmp 57)) 0 [(53, (.lf (.val 0))), (55, (.lf (tVi 4))), (57, (.agg [(tVi 7), (tSl 2 4 5), (tSl 3 6 7)]))] tJMergem1 .none tJMergem1 (.again 7 ⟨[(.op .add .i64 (.var 2) (.lit 1)), (.mx (.var 3) (.var 4))], [], [], [], []⟩ tJMergem1)))) (.gen (.mapUpdate 74 (.tmp 53) (.tmp 55) (.tmp 57)) 0 [(53, (.lf (.val 0))), (55, (.lf (tVi 4))), (57, (.agg [(tVi 7), (tSl 2 4 5), (tSl 3 6 7)]))] tJMergem0 .none tJMergem0 (.again 7 ⟨[(.op .add .i64 (.var 2) (.lit 1)), (.mx (.var 3) (.var 4))], [], [], [], []⟩ tJMergem0))))))))) (.again 4 ⟨[(.op .add .i64 (.var 0) (.lit 1)), (.var 3)], [], [], [], []⟩ ⟨[], ⟨4, 0, 1, 4, 2⟩⟩))))) (.gen (.call ⟨(.builtin .len), #[(.tmp 65)], #[74]⟩) 3 [(65, (.lf (.val 0)))] ⟨[], ⟨2, 0, 1, 2, 1⟩⟩ (.some (.lf (tVi 2))) ⟨[], ⟨3, 0, 1, 2, 1⟩⟩ (.br (.cmp .neq (.var 1) (.var 2)) (.done (.tup [(.false, [.nilsl]), (.false, [(tLi 41)])]) ⟨[], ⟨3, 0, 1, 2, 1⟩⟩) (.loop 22 ⟨[(.lit 1)], [], [], [(.lit 0), (.lit 0)], [.nil]⟩ ⟨[], ⟨3, 0, 1, 2, 1⟩⟩ ⟨[], ⟨4, 0, 1, 4, 2⟩⟩ (.br (.cmp .leq (.var 3) (.var 1)) (.gen (.lookup 74 (.tmp 75) (.tmp 76) .false) 35 [(75, (.lf (.val 0))), (76, (.lf (tVi 3)))] ⟨[], ⟨4, 0, 1, 4, 2⟩⟩ (.some (.agg [(tVi 4), (tSl 2 4 5), (tSl 3 6 7)])) ⟨[], ⟨5, 0, 1, 8, 4⟩⟩ (.call 26 [(.agg [(tVi 4), (tSl 2 4 5), (tSl 3 6 7)])] ⟨[], ⟨5, 0, 1, 8, 4⟩⟩ (.agg [(tVi 5), (tSl 4 8 9), (tSl 5 10 11)]) ⟨[], ⟨6, 0, 1, 12, 6⟩⟩ (.gen (.call ⟨(.builtin .append), #[(.tmp 73), (.tmp 80)], #[24, 24]⟩) 24 [(73, (.lf (tSl 1 2 3))), (80, (.lf (.nsl 0 0 1 1)))] ⟨[(39, tJMergeb0)], ⟨6, 0, 1, 12, 6⟩⟩ (.some (.lf (tSl 6 12 13))) ⟨[(39, tJMergeb0)], ⟨6, 0, 1, 14, 7⟩⟩ (.again 22 ⟨[(.op .add .i64 (.var 3) (.lit 1))], [], [], [(.var 12), (.var 13)], [(.var 6)]⟩ ⟨[(39, tJMergeb0)], ⟨6, 0, 1, 14, 7⟩⟩)))) (.done (.tup [(.false, [(tSl 1 2 3)]), (.false, [(tLi 0)])]) ⟨[], ⟨4, 0, 1, 4, 2⟩⟩)))))))) := by kernel_rfl
abbrev tJPutb0 : List LV := [(tVi 0), (tVi 1), (.int .i64 (.op .sub .i64 (.var 1) (.lit 1))), (tLi 2), (tLi 0), (tLi 0), (tVi 2), (tLi 0)]
set_option maxRecDepth 100000 in
theorem tJPut : (runF ⟨tt, fns, { }⟩ (Try.f19.body.getD .skip) Try.f19.results.toList (entry Try.f19.ntmps [.lf (.int .i64 (.var 0)), .lf (.int .i64 (.var 1)), .lf (.int .i64 (.var 2))] [] ⟨3, 0, 0, 0, 0⟩)) =
  (.done (.agg tJPutb0) ⟨[(43, tJPutb0)], ⟨3, 0, 0, 0, 0⟩⟩) := by kernel_rfl
abbrev tJHeadb0 : List LV := [(tLi 1), (tLi 1), (tLi 1), (tVi 3), (tVi 4), (tVi 5), (tVi 6), (tVi 7), (tLi 0), (tLi 0), (tLi 0), (tLi 0), (tLi 2), (tLi 1), (tLi 1), (tVi 3), (tVi 4), (tVi 5), (tVi 6), (tVi 7), (tLi 1), (tLi 1), (tLi 0), (tLi 0)]
abbrev tJHeadb1 : List LV := [(tLi 1), (tLi 1), (tLi 1), (tVi 3), (tVi 4), (tVi 5), (tVi 6), (tVi 7), (tLi 0), (tLi 0), (tLi 0), (tLi 0), (tLi 2), (tLi 1), (tLi 1), (tVi 3), (tVi 4), (tVi 5), (tVi 6), (tVi 7), (tLi 1), (tLi 2), (tLi 0), (tLi 0)]
abbrev tJHeadb2 : List LV := [(tLi 1), (tLi 1), (tLi 1), (tVi 3), (tVi 4), (tVi 5), (tVi 6), (tVi 7), (tLi 0), (tLi 0), (tLi 0), (tLi 0)]
abbrev tJHeadb3 : List LV := [(tLi 2), (tLi 1), (tLi 1), (tVi 3), (tVi 4), (tVi 5), (tVi 6), (tVi 7), (tLi 1), (tLi 1), (tLi 0), (tLi 0)]
abbrev tJHeadb4 : List LV := [(tLi 2), (tLi 1), (tLi 1), (tVi 3), (tVi 4), (tVi 5), (tVi 6), (tVi 7), (tLi 1), (tLi 2), (tLi 0), (tLi 0)]
abbrev tJHeadb5 : List LV := [(tVi 0), (tVi 1), (tVi 2), (tVi 3), (tVi 4), (tVi 5), (tVi 6), (tVi 7)]
abbrev tJHeadb6 : List LV := [(tLi 1), (tLi 0), (tLi 0), (tLi 1), (.nsl 1 0 1 1), .nilsl]
abbrev tJHeadm0 : Mem := ⟨[(43, tJHeadb5), (43, tJHeadb5), (39, tJHeadb6), (24, [(.nsl 2 0 1 1)]), (66, tJHeadb2), (66, tJHeadb3), (66, tJHeadb4), (3, [(tLi 1)]), (66, tJHeadb0), (3, [(tLi 1)]), (66, tJHeadb1)], ⟨11, 0, 0, 2, 1⟩⟩
abbrev tJHeadm1 : Mem := ⟨[(43, tJHeadb5), (43, tJHeadb5), (39, tJHeadb6), (24, [(.nsl 2 0 1 1)]), (66, tJHeadb2), (66, tJHeadb3), (66, tJHeadb4), (3, [(tLi 1)]), (66, tJHeadb0)], ⟨10, 0, 0, 2, 1⟩⟩
abbrev tJHeadm2 : Mem := ⟨[(43, tJHeadb5), (43, tJHeadb5), (39, tJHeadb6), (24, [(.nsl 2 0 1 1)]), (66, tJHeadb2), (66, tJHeadb3), (66, tJHeadb4)], ⟨9, 0, 0, 2, 1⟩⟩
set_option maxRecDepth 100000 in
theorem tJHead : (runF ⟨tt, fns, { }⟩ (Try.f8.body.getD .skip) Try.f8.results.toList (entry Try.f8.ntmps [] [] ⟨0, 0, 0, 0, 0⟩)) =
  (.call 19 [(.lf (tLi 1)), (.lf (tLi 1)), (.lf (tLi 1))] ⟨[], ⟨0, 0, 0, 0, 0⟩⟩ (.agg tJHeadb5) ⟨[], ⟨8, 0, 0, 0, 0⟩⟩ (.call 11 [(.lf (.nsl 3 0 1 1))] ⟨[(43, tJHeadb5), (43, tJHeadb5), (39, tJHeadb6), (24, [(.nsl 2 0 1 1)])], ⟨8, 0, 0, 0, 0⟩⟩ (.tup [(.false, [(tSl 0 0 1)]), (.false, [(tVi 8)])]) ⟨[(43, tJHeadb5), (43, tJHeadb5), (39, tJHeadb6), (24, [(.nsl 2 0 1 1)])], ⟨9, 0, 0, 2, 1⟩⟩ (.br (.cmp .eql (.var 8) (.lit 0)) (.br (.cmp .eql (.nat 0) (.lit 1)) (.call 14 [(.lf (.nsl 7 0 1 1)), (.lf (tSl 0 0 1)), (.lf (.nsl 8 0 2 2)), (.lf (.bool (.lit .false)))] ⟨[(43, tJHeadb5), (43, tJHeadb5), (39, tJHeadb6), (24, [(.nsl 2 0 1 1)]), (66, tJHeadb2), (66, tJHeadb3), (66, tJHeadb4), (3, [(tLi 1)]), (66, tJHeadb0)], ⟨9, 0, 0, 2, 1⟩⟩ (.lf (tVi 9)) tJHeadm1 (.br (.cmp .eql (.var 9) (.lit 0)) (.call 14 [(.lf (.nsl 9 0 1 1)), (.lf (tSl 0 0 1)), (.lf (.nsl 10 0 2 2)), (.lf (.bool (.lit .false)))] ⟨[(43, tJHeadb5), (43, tJHeadb5), (39, tJHeadb6), (24, [(.nsl 2 0 1 1)]), (66, tJHeadb2), (66, tJHeadb3), (66, tJHeadb4), (3, [(tLi 1)]), (66, tJHeadb0), (3, [(tLi 1)]), (66, tJHeadb1)], ⟨10, 0, 0, 2, 1⟩⟩ (.lf (tVi 10)) tJHeadm0 (.done (.lf (.bool (.cmp .eql (.var 10) (.lit 63)))) tJHeadm0)) (.done (.lf (.bool (.lit .false))) tJHeadm1))) (.done (.lf (.bool (.lit .false))) tJHeadm2)) (.done (.lf (.bool (.lit .false))) tJHeadm2)))) := by kernel_rfl
end Go.Proofs.Ytbedoemdjlollaa

namespace Go.Proofs.Ytbedoemdjlollaa
open Go.Eng
set_option maxRecDepth 100000
abbrev tRMergeb0 : List LV := [(tVi 4), (tLi 0), (tLi 0), (tVi 10), (tSl 7 14 15), (tSl 8 16 17)]
abbrev tRMergeb1 : List LV := [(tVi 4), (tVi 5), (tVi 6), (tVi 7), (tSl 5 10 11), (tSl 6 12 13)]
abbrev tRMergeb2 : List LV := [(tVi 5), (tVi 6), (tVi 7), (tVi 8), (tSl 4 8 9), (tSl 5 10 11)]
abbrev tRMergem0 : Mem := ⟨[(39, []), (39, tRMergeb1), (39, tRMergeb0)], ⟨11, 1, 0, 20, 10⟩⟩
abbrev tRMergem1 : Mem := ⟨[(39, []), (39, []), (39, tRMergeb2)], ⟨9, 0, 0, 14, 7⟩⟩
abbrev tRMergem2 : Mem := ⟨[(39, []), (39, tRMergeb1)], ⟨10, 1, 0, 14, 7⟩⟩
abbrev tRMergem3 : Mem := ⟨[(39, []), (39, tRMergeb1)], ⟨11, 1, 0, 14, 7⟩⟩
abbrev tRMergem4 : Mem := ⟨[(39, []), (39, tRMergeb1)], ⟨12, 1, 0, 18, 9⟩⟩
abbrev tRMergem5 : Mem := ⟨[(39, []), (39, tRMergeb1)], ⟨12, 2, 0, 18, 9⟩⟩
abbrev tRMergem6 : Mem := ⟨[(39, []), (39, tRMergeb1)], ⟨10, 1, 0, 16, 8⟩⟩
abbrev tRMergem7 : Mem := ⟨[(39, []), (39, tRMergeb1)], ⟨8, 0, 0, 14, 7⟩⟩
abbrev tRMergem8 : Mem := ⟨[(39, []), (39, tRMergeb1)], ⟨9, 0, 0, 14, 7⟩⟩
set_option maxRecDepth 100000 in
theorem tRMerge : (runF ⟨tt, fns, { cur := [1, 3], joins := [(23, ⟨[(4, .sl)], []⟩), (25, ⟨[(4, .sl), (5, .int .i64)], []⟩)], loops := [(4, ⟨[(17, .int .i64), (4, .sl), (5, .int .i64)], []⟩), (7, ⟨[(25, .int .i64), (4, .sl), (5, .int .i64)], []⟩), (14, ⟨[(46, .int .i64), (9, .bool)], []⟩), (31, ⟨[(12, .int .i64), (11, .sl)], []⟩), (34, ⟨[(98, .int .i64), (11, .sl)], []⟩)] }⟩ (Try.f10.body.getD .skip) Try.f10.results.toList (entry Try.f10.ntmps [.lf (.sl 0 (.var 0) (.var 1))] [] ⟨0, 0, 0, 2, 1⟩)) =
  (.loop 4 ⟨[(.lit 0), (.lit 0)], [], [], [(.lit 0), (.lit 0)], [(.nm 0 0)]⟩ ⟨[(39, [])], ⟨0, 0, 0, 2, 1⟩⟩ ⟨[(39, [])], ⟨2, 0, 0, 4, 2⟩⟩ (.br (.cmp .lss (.var 0) (.nat 0)) (.need (.inb 0 (.var 0) (.nat 0)) (.ld .false (.adr 0 (.var 0) 1 0) [(tSl 2 4 5)] ⟨[(39, [])], ⟨2, 0, 0, 4, 2⟩⟩ ⟨[(39, [])], ⟨2, 0, 0, 6, 3⟩⟩ (.loop 7 ⟨[(.lit 0), (.var 1)], [], [], [(.var 2), (.var 3)], [(.var 1)]⟩ ⟨[(39, [])], ⟨2, 0, 0, 6, 3⟩⟩ ⟨[(39, [])], ⟨4, 0, 0, 8, 4⟩⟩ (.br (.cmp .lss (.var 2) (.nat 4)) (.join 25 ⟨[(39, [])], ⟨4, 0, 0, 8, 4⟩⟩ ⟨[(39, [])], ⟨5, 0, 0, 10, 5⟩⟩ (.need (.inb 0 (.var 0) (.nat 0)) (.ld .false (.adr 0 (.var 0) 1 0) [(tSl 4 8 9)] ⟨[(39, [])], ⟨4, 0, 0, 8, 4⟩⟩ ⟨[(39, [])], ⟨4, 0, 0, 10, 5⟩⟩ (.need (.inb 4 (.var 2) (.nat 8)) (.ld .false (.adr 4 (.var 2) 6 0) tRMergeb1 ⟨[(39, [])], ⟨4, 0, 0, 10, 5⟩⟩ ⟨[(39, [])], ⟨8, 0, 0, 14, 7⟩⟩ (.br (.cmp .lss (.var 4) (.lit 1)) (.done (.tup [(.false, [.nilsl]), (.false, [(tLi 1)])]) tRMergem7) (.call 21 [(.agg [(tVi 7), (tSl 5 10 11), (tSl 6 12 13)])] tRMergem7 (.lf (tVi 8)) tRMergem8 (.br (.cmp .neq (.var 8) (.lit 0)) (.done (.tup [(.false, [.nilsl]), (.false, [(tLi 1)])]) tRMergem8) (.loop 14 ⟨[(.lit 0)], [(.lit .false)], [], [], []⟩ tRMergem8 tRMergem2 (.br (.cmp .lss (.var 9) (.nat 6)) (.need (.inb 3 (.var 9) (.nat 6)) (.ld .true (.adr 3 (.var 9) 6 0) [(tVi 10)] tRMergem2 tRMergem3 (.br (.cmp .eql (.var 10) (.var 4)) (.need (.inb 3 (.var 9) (.nat 6)) (.ld .true (.adr 3 (.var 9) 6 3) [(tVi 11), (tSl 7 14 15), (tSl 8 16 17)] tRMergem3 tRMergem4 (.call 22 [(.agg [(tVi 11), (tSl 7 14 15), (tSl 8 16 17)]), (.agg [(tVi 7), (tSl 5 10 11), (tSl 6 12 13)])] tRMergem4 (.lf (.bool (.var 1))) tRMergem5 (.br (.not (.var 1)) (.done (.tup [(.false, [.nilsl]), (.false, [(tLi 63)])]) tRMergem5) (.again 14 ⟨[(.op .add .i64 (.var 9) (.lit 1))], [(.lit .true)], [], [], []⟩ tRMergem5))))) (.again 14 ⟨[(.op .add .i64 (.var 9) (.lit 1))], [(.var 0)], [], [], []⟩ tRMergem3)))) (.join 23 tRMergem2 tRMergem6 (.br (.not (.var 0)) (.call 23 [(.agg [(tVi 7), (tSl 5 10 11), (tSl 6 12 13)])] tRMergem2 (.agg [(tVi 10), (tSl 7 14 15), (tSl 8 16 17)]) ⟨[(39, []), (39, tRMergeb1)], ⟨11, 1, 0, 18, 9⟩⟩ (.gen (.call ⟨(.builtin .append), #[(.tmp 69), (.tmp 76)], #[24, 24]⟩) 24 [(69, (.lf (tSl 3 6 7))), (76, (.lf (.nsl 2 0 1 1)))] ⟨[(39, []), (39, tRMergeb1), (39, tRMergeb0)], ⟨11, 1, 0, 18, 9⟩⟩ (.some (.lf (tSl 9 18 19))) tRMergem0 (.again 23 ⟨[], [], [], [(.var 18), (.var 19)], [(.var 9)]⟩ tRMergem0))) (.again 23 ⟨[], [], [], [(.var 6), (.var 7)], [(.var 3)]⟩ tRMergem2)) (.br (.cmp .gtr (.var 4) (.var 3)) (.again 25 ⟨[(.var 4)], [], [], [(.var 14), (.var 15)], [(.var 7)]⟩ tRMergem6) (.again 25 ⟨[(.var 3)], [], [], [(.var 14), (.var 15)], [(.var 7)]⟩ tRMergem6)))))))))))) (.again 7 ⟨[(.op .add .i64 (.var 2) (.lit 1)), (.var 4)], [], [], [(.var 8), (.var 9)], [(.var 4)]⟩ ⟨[(39, [])], ⟨5, 0, 0, 10, 5⟩⟩)) (.again 4 ⟨[(.op .add .i64 (.var 0) (.lit 1)), (.var 3)], [], [], [(.var 6), (.var 7)], [(.var 3)]⟩ ⟨[(39, [])], ⟨4, 0, 0, 8, 4⟩⟩))))) (.br (.cmp .neq (.nat 2) (.var 1)) (.done (.tup [(.false, [.nilsl]), (.false, [(tLi 41)])]) ⟨[(39, [])], ⟨2, 0, 0, 4, 2⟩⟩) (.loop 31 ⟨[(.lit 1)], [], [], [(.lit 0), (.lit 0)], [(.nm 1 0)]⟩ ⟨[(39, []), (39, [])], ⟨2, 0, 0, 4, 2⟩⟩ ⟨[(39, []), (39, [])], ⟨3, 0, 0, 6, 3⟩⟩ (.br (.cmp .leq (.var 2) (.var 1)) (.loop 34 ⟨[(.lit 0)], [], [], [(.var 4), (.var 5)], [(.var 2)]⟩ ⟨[(39, []), (39, [])], ⟨3, 0, 0, 6, 3⟩⟩ ⟨[(39, []), (39, [])], ⟨4, 0, 0, 8, 4⟩⟩ (.br (.cmp .lss (.var 3) (.nat 2)) (.need (.inb 1 (.var 3) (.nat 2)) (.ld .true (.adr 1 (.var 3) 6 0) [(tVi 4)] ⟨[(39, []), (39, [])], ⟨4, 0, 0, 8, 4⟩⟩ ⟨[(39, []), (39, [])], ⟨5, 0, 0, 8, 4⟩⟩ (.br (.cmp .eql (.var 4) (.var 2)) (.need (.inb 1 (.var 3) (.nat 2)) (.ld .true (.adr 1 (.var 3) 6 0) tRMergeb2 ⟨[(39, []), (39, [])], ⟨5, 0, 0, 8, 4⟩⟩ ⟨[(39, []), (39, [])], ⟨9, 0, 0, 12, 6⟩⟩ (.gen (.call ⟨(.builtin .append), #[(.tmp 108), (.tmp 113)], #[24, 24]⟩) 24 [(108, (.lf (tSl 3 6 7))), (113, (.lf (.nsl 2 0 1 1)))] ⟨[(39, []), (39, []), (39, tRMergeb2)], ⟨9, 0, 0, 12, 6⟩⟩ (.some (.lf (tSl 6 12 13))) tRMergem1 (.again 34 ⟨[(.op .add .i64 (.var 3) (.lit 1))], [], [], [(.var 12), (.var 13)], [(.var 6)]⟩ tRMergem1)))) (.again 34 ⟨[(.op .add .i64 (.var 3) (.lit 1))], [], [], [(.var 6), (.var 7)], [(.var 3)]⟩ ⟨[(39, []), (39, [])], ⟨5, 0, 0, 8, 4⟩⟩)))) (.again 31 ⟨[(.op .add .i64 (.var 2) (.lit 1))], [], [], [(.var 6), (.var 7)], [(.var 3)]⟩ ⟨[(39, []), (39, [])], ⟨4, 0, 0, 8, 4⟩⟩))) (.done (.tup [(.false, [(tSl 2 4 5)]), (.false, [(tLi 0)])]) ⟨[(39, []), (39, [])], ⟨3, 0, 0, 6, 3⟩⟩)))))) := by kernel_rfl
abbrev tLMergesm0 : Mem := ⟨[(24, []), (24, [(tSl 3 6 7)])], ⟨1, 1, 0, 10, 5⟩⟩
set_option maxRecDepth 100000 in
theorem tLMerges : (runF ⟨tt, fns, { cur := [1, 3], loops := [(5, ⟨[(17, .int .i64), (3, .sl)], []⟩), (14, ⟨[(50, .int .i64)], []⟩), (17, ⟨[(60, .int .i64)], []⟩), (23, ⟨[(76, .int .i64)], []⟩)] }⟩ (Try.f3.body.getD .skip) Try.f3.results.toList (entry Try.f3.ntmps [.lf (.sl 0 (.var 0) (.var 1))] [] ⟨0, 0, 0, 2, 1⟩)) =
  (.call 8 [] ⟨[], ⟨0, 0, 0, 2, 1⟩⟩ (.lf (.bool (.var 0))) ⟨[], ⟨0, 1, 0, 2, 1⟩⟩ (.br (.not (.var 0)) (.done (.lf (.bool (.lit .false))) ⟨[], ⟨0, 1, 0, 2, 1⟩⟩) (.loop 5 ⟨[(.lit 0)], [], [], [(.lit 0), (.lit 0)], [(.nm 0 0)]⟩ ⟨[(24, [])], ⟨0, 1, 0, 2, 1⟩⟩ ⟨[(24, [])], ⟨1, 1, 0, 4, 2⟩⟩ (.br (.cmp .lss (.var 0) (.nat 0)) (.need (.inb 0 (.var 0) (.nat 0)) (.ld .false (.adr 0 (.var 0) 1 0) [(tSl 2 4 5)] ⟨[(24, [])], ⟨1, 1, 0, 4, 2⟩⟩ ⟨[(24, [])], ⟨1, 1, 0, 6, 3⟩⟩ (.call 9 [(.lf (tSl 2 4 5))] ⟨[(24, [])], ⟨1, 1, 0, 6, 3⟩⟩ (.lf (tSl 3 6 7)) ⟨[(24, [])], ⟨1, 1, 0, 8, 4⟩⟩ (.gen (.call ⟨(.builtin .append), #[(.tmp 20), (.tmp 26)], #[22, 22]⟩) 22 [(20, (.lf (tSl 1 2 3))), (26, (.lf (.nsl 1 0 1 1)))] ⟨[(24, []), (24, [(tSl 3 6 7)])], ⟨1, 1, 0, 8, 4⟩⟩ (.some (.lf (tSl 4 8 9))) tLMergesm0 (.again 5 ⟨[(.op .add .i64 (.var 0) (.lit 1))], [], [], [(.var 8), (.var 9)], [(.var 4)]⟩ tLMergesm0))))) (.call 10 [(.lf (tSl 0 0 1))] ⟨[(24, [])], ⟨1, 1, 0, 4, 2⟩⟩ (.tup [(.false, [(tSl 2 4 5)]), (.false, [(tVi 1)])]) ⟨[(24, [])], ⟨2, 1, 0, 6, 3⟩⟩ (.call 11 [(.lf (tSl 1 2 3))] ⟨[(24, [])], ⟨2, 1, 0, 6, 3⟩⟩ (.tup [(.false, [(tSl 3 6 7)]), (.false, [(tVi 2)])]) ⟨[(24, [])], ⟨3, 1, 0, 8, 4⟩⟩ (.br (.cmp .neq (.var 2) (.var 1)) (.done (.lf (.bool (.lit .false))) ⟨[(24, [])], ⟨3, 1, 0, 8, 4⟩⟩) (.call 12 [(.lf (tSl 3 6 7)), (.lf (tSl 2 4 5))] ⟨[(24, [])], ⟨3, 1, 0, 8, 4⟩⟩ (.lf (.bool (.var 1))) ⟨[(24, [])], ⟨3, 2, 0, 8, 4⟩⟩ (.br (.not (.var 1)) (.done (.lf (.bool (.lit .false))) ⟨[(24, [])], ⟨3, 2, 0, 8, 4⟩⟩) (.loop 14 ⟨[(.lit 0)], [], [], [], []⟩ ⟨[(24, [])], ⟨3, 2, 0, 8, 4⟩⟩ ⟨[(24, [])], ⟨4, 2, 0, 8, 4⟩⟩ (.br (.cmp .lss (.var 3) (.nat 6)) (.need (.inb 3 (.var 3) (.nat 6)) (.ld .true (.adr 3 (.var 3) 6 4) [(tSl 4 8 9)] ⟨[(24, [])], ⟨4, 2, 0, 8, 4⟩⟩ ⟨[(24, [])], ⟨4, 2, 0, 10, 5⟩⟩ (.loop 17 ⟨[(.lit 0)], [], [], [], []⟩ ⟨[(24, [])], ⟨4, 2, 0, 10, 5⟩⟩ ⟨[(24, [])], ⟨5, 2, 0, 10, 5⟩⟩ (.br (.cmp .lss (.var 4) (.nat 8)) (.need (.inb 3 (.var 3) (.nat 6)) (.ld .true (.adr 3 (.var 3) 6 4) [(tSl 5 10 11)] ⟨[(24, [])], ⟨5, 2, 0, 10, 5⟩⟩ ⟨[(24, [])], ⟨5, 2, 0, 12, 6⟩⟩ (.need (.inb 5 (.var 4) (.nat 10)) (.gen (.store 3 (.tmp 71) (.const (.int .i64 (-1)))) 0 [(71, (.lf (.adr 5 (.var 4) 8 1)))] ⟨[(24, [])], ⟨5, 2, 0, 12, 6⟩⟩ .none ⟨[(24, [])], ⟨5, 2, 0, 12, 6⟩⟩ (.again 17 ⟨[(.op .add .i64 (.var 4) (.lit 1))], [], [], [], []⟩ ⟨[(24, [])], ⟨5, 2, 0, 12, 6⟩⟩))))) (.again 14 ⟨[(.op .add .i64 (.var 3) (.lit 1))], [], [], [], []⟩ ⟨[(24, [])], ⟨5, 2, 0, 10, 5⟩⟩))))) (.loop 23 ⟨[(.lit 0)], [], [], [], []⟩ ⟨[(24, [])], ⟨4, 2, 0, 8, 4⟩⟩ ⟨[(24, [])], ⟨5, 2, 0, 8, 4⟩⟩ (.br (.cmp .lss (.var 4) (.nat 2)) (.need (.inb 1 (.var 4) (.nat 2)) (.need (.inb 0 (.var 4) (.nat 0)) (.par (.ld .true (.adr 1 (.var 4) 1 0) [(tSl 4 8 9)] ⟨[(24, [])], ⟨5, 2, 0, 8, 4⟩⟩ ⟨[(24, [])], ⟨5, 2, 0, 10, 5⟩⟩ (.ld .false (.adr 0 (.var 4) 1 0) [(tSl 5 10 11)] ⟨[(24, [])], ⟨5, 2, 0, 10, 5⟩⟩ ⟨[(24, [])], ⟨5, 2, 0, 12, 6⟩⟩ (.call 12 [(.lf (tSl 4 8 9)), (.lf (tSl 5 10 11))] ⟨[(24, [])], ⟨5, 2, 0, 12, 6⟩⟩ (.lf (.bool (.var 2))) ⟨[(24, [])], ⟨5, 3, 0, 12, 6⟩⟩ (.br (.not (.var 2)) (.done (.lf (.bool (.lit .false))) ⟨[(24, [])], ⟨5, 3, 0, 12, 6⟩⟩) (.again 23 ⟨[(.op .add .i64 (.var 4) (.lit 1))], [], [], [], []⟩ ⟨[(24, [])], ⟨5, 3, 0, 12, 6⟩⟩))))) (.ld .false (.adr 0 (.var 4) 1 0) [(tSl 4 8 9)] ⟨[(24, [])], ⟨5, 2, 0, 8, 4⟩⟩ ⟨[(24, [])], ⟨5, 2, 0, 10, 5⟩⟩ (.ld .true (.adr 1 (.var 4) 1 0) [(tSl 5 10 11)] ⟨[(24, [])], ⟨5, 2, 0, 10, 5⟩⟩ ⟨[(24, [])], ⟨5, 2, 0, 12, 6⟩⟩ (.call 12 [(.lf (tSl 5 10 11)), (.lf (tSl 4 8 9))] ⟨[(24, [])], ⟨5, 2, 0, 12, 6⟩⟩ (.lf (.bool (.var 2))) ⟨[(24, [])], ⟨5, 3, 0, 12, 6⟩⟩ (.br (.not (.var 2)) (.done (.lf (.bool (.lit .false))) ⟨[(24, [])], ⟨5, 3, 0, 12, 6⟩⟩) (.again 23 ⟨[(.op .add .i64 (.var 4) (.lit 1))], [], [], [], []⟩ ⟨[(24, [])], ⟨5, 3, 0, 12, 6⟩⟩)))))))) (.done (.lf (.bool (.lit .true))) ⟨[(24, [])], ⟨5, 2, 0, 8, 4⟩⟩)))))))))))))) := by kernel_rfl
end Go.Proofs.Ytbedoemdjlollaa

namespace Go.Proofs.Ytbedoemdjlollaa
open Go.Eng
set_option maxRecDepth 100000
abbrev tJPlayb0 : List LV := [(tVi 41), (tSl 10 20 21), (tVi 42), (tVi 43), (tVi 44), (tVi 45), (tVi 46), (tVi 47), (tVi 48), (tVi 49), (tVi 50), (tVi 51), (tVi 52), (tVi 53), (tVi 54), (tVi 55), (tVi 56), (tVi 57), (tVi 58), (tSl 11 22 23)]
abbrev tJPlayb1 : List LV := [(tVi 19), (tSl 6 12 13), (tVi 20), (tVi 21), (tVi 22), (tVi 23), (tVi 24), (tVi 25), (tVi 26), (tVi 27), (tVi 28), (tVi 29), (tVi 30), (tVi 31), (tVi 32), (tVi 33), (tVi 34), (tVi 35), (tVi 36), (tSl 7 14 15)]
abbrev tJPlayb2 : List LV := [(tVi 0), (tSl 3 6 7), (tVi 1), (tVi 2), (tVi 3), (tVi 4), (tVi 5), (tVi 6), (tVi 7), (tVi 8), (tVi 9), (tVi 10), (tVi 11), (tVi 12), (tVi 13), (tVi 14), (tVi 15), (tVi 16), (tVi 17), (tSl 4 8 9)]
abbrev tJPlayb3 : List LV := [(tVi 89), (tVi 90), (tVi 91), (tVi 92), (tVi 93), (tVi 94), (tVi 95), (tVi 96), (tVi 97), (tVi 98), (tVi 99), (tVi 100), (tVi 101), (tVi 102), (tVi 103), (tVi 104)]
abbrev tJPlayb4 : List LV := [(tVi 73), (tVi 74), (tVi 75), (tVi 76), (tVi 77), (tVi 78), (tVi 79), (tVi 80), (tVi 81), (tVi 82), (tVi 83), (tVi 84), (tVi 85), (tVi 86), (tVi 87), (tVi 88)]
abbrev tJPlayb5 : List LV := [(tLi 0), (tLi 0), (tLi 0), (tLi 0), (tLi 0), (tLi 0), (tLi 0), (tLi 0), (tLi 0), (tLi 0), (tLi 0), (tLi 0), (tLi 0), (tLi 0), (tLi 0), (tLi 0)]
abbrev tJPlayb6 : List LV := [(tVi 61), (tVi 62), (tVi 63), (tVi 64), (tVi 65), (tVi 66), (tVi 67), (tVi 68)]
abbrev tJPlayb7 : List LV := [(tVi 37), (tVi 38), (tVi 39), (tVi 40), (tSl 8 16 17), (tSl 9 18 19)]
abbrev tJPlayb8 : List LV := [.nilsl, (.cst (.map .none)), (.cst (.map .none))]
abbrev tJPlayb9 : List LV := [(tVi 64), (tVi 65), (tVi 66), (tVi 67), (tVi 68)]
abbrev tJPlaym0 : Mem := ⟨[(87, tJPlayb8), (87, [(tSl 13 26 27), (.val 4), (.val 5)]), (54, tJPlayb1), (39, tJPlayb7), (54, tJPlayb0), (43, tJPlayb6), (91, [(tVi 61), (tVi 62)]), (62, [(tVi 70), (tVi 71), (tVi 72)]), (93, tJPlayb3), (62, [(tVi 105), (tVi 106), (tVi 107)])], ⟨108, 1, 6, 28, 14⟩⟩
abbrev tJPlaym1 : Mem := ⟨[(87, tJPlayb8), (87, [(tSl 13 26 27), (.val 4), (.val 5)]), (54, tJPlayb1), (39, tJPlayb7), (54, tJPlayb0), (43, tJPlayb6), (91, [(tVi 61), (tVi 62)]), (62, [(tVi 70), (tVi 71), (tVi 72)]), (93, tJPlayb3), (62, [(tVi 105), (tVi 106), (tVi 107)])], ⟨108, 1, 6, 30, 15⟩⟩
abbrev tJPlaym2 : Mem := ⟨[(87, tJPlayb8), (87, [(tSl 13 26 27), (.val 4), (.val 5)]), (54, tJPlayb1), (39, tJPlayb7), (54, tJPlayb0), (43, tJPlayb6), (91, [(tVi 61), (tVi 62)]), (62, [(tVi 70), (tVi 71), (tVi 72)]), (93, tJPlayb3), (62, [(tVi 105), (tVi 106), (tVi 107)])], ⟨108, 1, 6, 32, 16⟩⟩
abbrev tJPlaym3 : Mem := ⟨[(87, tJPlayb8), (87, [(tSl 15 30 31), (.val 4), (.val 5)]), (54, tJPlayb1), (39, tJPlayb7), (54, tJPlayb0), (43, tJPlayb6), (91, [(tVi 61), (tVi 62)]), (62, [(tVi 70), (tVi 71), (tVi 72)]), (93, tJPlayb3), (62, [(tVi 105), (tVi 106), (tVi 107)])], ⟨108, 1, 6, 32, 16⟩⟩
abbrev tJPlaym4 : Mem := ⟨[(87, tJPlayb8), (87, [(tSl 13 26 27), (.val 4), (.val 5)]), (54, tJPlayb1), (39, tJPlayb7), (54, tJPlayb0), (43, tJPlayb6), (91, [(tVi 61), (tVi 62)]), (62, [(tVi 70), (tVi 71), (tVi 72)]), (62, [(tVi 105), (tVi 106), (tVi 107)]), (93, tJPlayb3)], ⟨108, 1, 6, 28, 14⟩⟩
abbrev tJPlaym5 : Mem := ⟨[(87, tJPlayb8), (87, [(tSl 13 26 27), (.val 4), (.val 5)]), (54, tJPlayb1), (39, tJPlayb7), (54, tJPlayb0), (43, tJPlayb6), (91, [(tVi 61), (tVi 62)]), (62, [(tVi 70), (tVi 71), (tVi 72)]), (62, [(tVi 105), (tVi 106), (tVi 107)]), (93, tJPlayb3)], ⟨108, 1, 6, 30, 15⟩⟩
abbrev tJPlaym6 : Mem := ⟨[(87, tJPlayb8), (87, [(tSl 13 26 27), (.val 4), (.val 5)]), (54, tJPlayb1), (39, tJPlayb7), (54, tJPlayb0), (43, tJPlayb6), (91, [(tVi 61), (tVi 62)]), (62, [(tVi 70), (tVi 71), (tVi 72)]), (62, [(tVi 105), (tVi 106), (tVi 107)]), (93, tJPlayb3)], ⟨108, 1, 6, 32, 16⟩⟩
abbrev tJPlaym7 : Mem := ⟨[(87, tJPlayb8), (87, [(tSl 15 30 31), (.val 4), (.val 5)]), (54, tJPlayb1), (39, tJPlayb7), (54, tJPlayb0), (43, tJPlayb6), (91, [(tVi 61), (tVi 62)]), (62, [(tVi 70), (tVi 71), (tVi 72)]), (62, [(tVi 105), (tVi 106), (tVi 107)]), (93, tJPlayb3)], ⟨108, 1, 6, 32, 16⟩⟩
abbrev tJPlaym8 : Mem := ⟨[(87, tJPlayb8), (87, [(tSl 13 26 27), (.val 4), (.val 5)]), (54, tJPlayb1), (39, tJPlayb7), (54, tJPlayb0), (43, tJPlayb6), (91, [(tVi 61), (tVi 62)]), (62, [(tVi 70), (tVi 71), (tVi 72)]), (93, tJPlayb5), (62, [(tLi 0), (tLi 0), (tLi 0)])], ⟨108, 1, 6, 28, 14⟩⟩
abbrev tJPlaym9 : Mem := ⟨[(87, tJPlayb8), (87, [(tSl 13 26 27), (.val 4), (.val 5)]), (54, tJPlayb1), (39, tJPlayb7), (54, tJPlayb0), (43, tJPlayb6), (91, [(tVi 61), (tVi 62)]), (62, [(tVi 70), (tVi 71), (tVi 72)]), (62, [(tLi 0), (tLi 0), (tLi 0)]), (93, tJPlayb5)], ⟨108, 1, 6, 28, 14⟩⟩
abbrev tJPlaym10 : Mem := ⟨[(87, tJPlayb8), (87, [(tSl 13 26 27), (.val 4), (.val 5)]), (54, tJPlayb1), (39, tJPlayb7), (54, tJPlayb0), (43, tJPlayb6), (91, [(tVi 61), (tVi 62)]), (62, [(tVi 70), (tVi 71), (tVi 72)]), (93, tJPlayb5), (62, [(tLi 0), (tLi 0), (tLi 0)])], ⟨89, 1, 6, 28, 14⟩⟩
abbrev tJPlaym11 : Mem := ⟨[(87, tJPlayb8), (87, [(tSl 13 26 27), (.val 4), (.val 5)]), (54, tJPlayb1), (39, tJPlayb7), (54, tJPlayb0), (43, tJPlayb6), (91, [(tVi 61), (tVi 62)]), (62, [(tVi 70), (tVi 71), (tVi 72)]), (62, [(tLi 0), (tLi 0), (tLi 0)]), (93, tJPlayb5)], ⟨89, 1, 6, 28, 14⟩⟩
abbrev tJPlaym12 : Mem := ⟨[(87, tJPlayb8), (87, [(tSl 13 26 27), (.val 4), (.val 5)]), (54, tJPlayb1), (39, tJPlayb7), (54, tJPlayb0), (43, tJPlayb6), (91, [(tVi 61), (tVi 62)]), (62, [(tVi 70), (tVi 71), (tVi 72)]), (62, [(tLi 0), (tLi 0), (tLi 0)])], ⟨108, 1, 6, 28, 14⟩⟩
abbrev tJPlaym13 : Mem := ⟨[(87, tJPlayb8), (87, [(tSl 13 26 27), (.val 4), (.val 5)]), (54, tJPlayb1), (39, tJPlayb7), (54, tJPlayb0), (43, tJPlayb6), (91, [(tVi 61), (tVi 62)]), (62, [(tVi 70), (tVi 71), (tVi 72)]), (62, [(tLi 0), (tLi 0), (tLi 0)])], ⟨89, 1, 6, 28, 14⟩⟩
abbrev tJPlaym14 : Mem := ⟨[(87, tJPlayb8), (87, [(tSl 13 26 27), (.val 4), (.val 5)]), (54, tJPlayb1), (39, tJPlayb7), (54, tJPlayb0), (43, tJPlayb6), (91, [(tVi 61), (tVi 62)]), (62, [(tVi 70), (tVi 71), (tVi 72)]), (93, tJPlayb5)], ⟨108, 1, 6, 28, 14⟩⟩
abbrev tJPlaym15 : Mem := ⟨[(87, tJPlayb8), (87, [(tSl 13 26 27), (.val 4), (.val 5)]), (54, tJPlayb1), (39, tJPlayb7), (54, tJPlayb0), (43, tJPlayb6), (91, [(tVi 61), (tVi 62)]), (62, [(tVi 70), (tVi 71), (tVi 72)]), (93, tJPlayb5)], ⟨89, 1, 6, 28, 14⟩⟩
abbrev tJPlaym16 : Mem := ⟨[(87, tJPlayb8), (87, [(tSl 13 26 27), (.val 4), (.val 5)]), (54, tJPlayb1), (39, tJPlayb7), (54, tJPlayb0), (43, tJPlayb6), (91, [(tVi 61), (tVi 62)]), (62, [(tVi 70), (tVi 71), (tVi 72)])], ⟨73, 1, 6, 28, 14⟩⟩
abbrev tJPlaym17 : Mem := ⟨[(87, tJPlayb8), (87, [(tSl 13 26 27), (.val 4), (.val 5)]), (54, tJPlayb1), (39, tJPlayb7), (54, tJPlayb0), (43, tJPlayb6), (91, [(tVi 61), (tVi 62)]), (62, [(tVi 70), (tVi 71), (tVi 72)])], ⟨89, 1, 6, 28, 14⟩⟩
abbrev tJPlaym18 : Mem := ⟨[(87, tJPlayb8), (87, [(tSl 13 26 27), (.val 4), (.val 5)]), (54, tJPlayb1), (39, tJPlayb7), (54, tJPlayb0), (43, tJPlayb6), (91, [(tVi 61), (tVi 62)])], ⟨70, 1, 6, 28, 14⟩⟩
abbrev tJPlaym19 : Mem := ⟨[(87, [(tSl 5 10 11), (.val 2), (.val 3)]), (87, [(tSl 5 10 11), (.val 2), (.val 3)]), (54, tJPlayb1), (39, tJPlayb7), (54, tJPlayb0)], ⟨60, 0, 4, 26, 13⟩⟩
abbrev tJPlaym20 : Mem := ⟨[(87, tJPlayb8), (87, [(tSl 13 26 27), (.val 4), (.val 5)]), (54, tJPlayb1), (39, tJPlayb7), (54, tJPlayb0)], ⟨61, 0, 6, 28, 14⟩⟩
abbrev tJPlaym21 : Mem := ⟨[(87, tJPlayb8), (87, [(tSl 5 10 11), (.val 2), (.val 3)]), (54, tJPlayb1), (39, tJPlayb7)], ⟨41, 0, 4, 20, 10⟩⟩
abbrev tJPlaym22 : Mem := ⟨[(87, tJPlayb8), (87, [(tSl 5 10 11), (.val 2), (.val 3)]), (54, tJPlayb1), (39, tJPlayb7)], ⟨60, 0, 4, 26, 13⟩⟩
abbrev tJPlaym23 : Mem := ⟨[(87, tJPlayb8), (87, [(tSl 5 10 11), (.val 2), (.val 3)]), (54, tJPlayb1)], ⟨37, 0, 4, 16, 8⟩⟩
abbrev tJPlayt5 : Tree := (.gen (.buildSlice 83 1 #[(0, (.tmp 118))]) 83 [(118, (.agg tJPlayb3))] tJPlaym4 (.some (.lf (tSl 14 28 29))) tJPlaym5 (.gen (.call ⟨(.builtin .append), #[(.tmp 117), (.tmp 119)], #[83, 83]⟩) 83 [(117, (.lf (tSl 13 26 27))), (119, (.lf (tSl 14 28 29)))] tJPlaym5 (.some (.lf (tSl 15 30 31))) tJPlaym6 (.gen (.mapUpdate 84 (.tmp 123) (.tmp 124) (.tmp 131)) 0 [(123, (.lf (.val 4))), (124, (.agg [(tVi 61), (tVi 62)])), (131, (.lf (.int .i64 (.op .sub .i64 (.nat 30) (.lit 1)))))] tJPlaym7 .none tJPlaym7 (.gen (.mapUpdate 85 (.tmp 126) (.tmp 127) (.tmp 132)) 0 [(126, (.lf (.val 5))), (127, (.agg [(tVi 61), (tVi 62)])), (132, (.agg [(tVi 70), (tVi 71), (tVi 72)]))] tJPlaym7 .none tJPlaym7 (.again 15 ⟨[(.op .add .i64 (.var 60) (.lit 1))], [], [(.val 4), (.val 5)], [(.var 30), (.var 31)], [(.var 15)]⟩ tJPlaym7)))))
abbrev tJPlayt4 : Tree := (.gen (.buildSlice 83 1 #[(0, (.tmp 118))]) 83 [(118, (.agg tJPlayb3))] tJPlaym0 (.some (.lf (tSl 14 28 29))) tJPlaym1 (.gen (.call ⟨(.builtin .append), #[(.tmp 117), (.tmp 119)], #[83, 83]⟩) 83 [(117, (.lf (tSl 13 26 27))), (119, (.lf (tSl 14 28 29)))] tJPlaym1 (.some (.lf (tSl 15 30 31))) tJPlaym2 (.gen (.mapUpdate 84 (.tmp 123) (.tmp 124) (.tmp 131)) 0 [(123, (.lf (.val 4))), (124, (.agg [(tVi 61), (tVi 62)])), (131, (.lf (.int .i64 (.op .sub .i64 (.nat 30) (.lit 1)))))] tJPlaym3 .none tJPlaym3 (.gen (.mapUpdate 85 (.tmp 126) (.tmp 127) (.tmp 132)) 0 [(126, (.lf (.val 5))), (127, (.agg [(tVi 61), (tVi 62)])), (132, (.agg [(tVi 70), (tVi 71), (tVi 72)]))] tJPlaym3 .none tJPlaym3 (.again 15 ⟨[(.op .add .i64 (.var 60) (.lit 1))], [], [(.val 4), (.val 5)], [(.var 30), (.var 31)], [(.var 15)]⟩ tJPlaym3)))))
abbrev tJPlayt3 : Tree := (.call 31 [(.agg tJPlayb4), (.agg tJPlayb9)] tJPlaym11 (.tup [(.true, tJPlayb3), (.true, [(tVi 105), (tVi 106), (tVi 107)])]) tJPlaym9 tJPlayt5)
abbrev tJPlayt2 : Tree := (.call 31 [(.agg tJPlayb4), (.agg tJPlayb9)] tJPlaym10 (.tup [(.true, tJPlayb3), (.true, [(tVi 105), (tVi 106), (tVi 107)])]) tJPlaym8 tJPlayt4)
abbrev tJPlayt1 : Tree := (.par (.call 31 [(.agg tJPlayb4), (.agg tJPlayb9)] tJPlaym13 (.tup [(.true, tJPlayb3), (.true, [(tVi 105), (tVi 106), (tVi 107)])]) tJPlaym12 tJPlayt5) tJPlayt3)
abbrev tJPlayt0 : Tree := (.par (.call 31 [(.agg tJPlayb4), (.agg tJPlayb9)] tJPlaym15 (.tup [(.true, tJPlayb3), (.true, [(tVi 105), (tVi 106), (tVi 107)])]) tJPlaym14 tJPlayt4) tJPlayt2)
set_option maxRecDepth 100000 in
theorem tJPlay : (runF ⟨tt, fns, { lits := true, cur := [12, 13], loops := [(4, ⟨[(33, .int .i64)], [1, 2]⟩), (15, ⟨[(74, .int .i64)], [1]⟩)] }⟩ (Try.f30.body.getD .skip) Try.f30.results.toList (entry Try.f30.ntmps [.lf (.sl 0 (.var 0) (.var 1)), .lf (.sl 1 (.var 2) (.var 3))] [] ⟨0, 0, 0, 4, 2⟩)) =
  (.gen (.buildSlice 83 1 #[(0, (.tmp 24))]) 83 [(24, (.agg tJPlayb5))] ⟨[(87, tJPlayb8)], ⟨0, 0, 0, 4, 2⟩⟩ (.some (.lf (tSl 2 4 5))) ⟨[(87, tJPlayb8)], ⟨0, 0, 0, 6, 3⟩⟩ (.gen (.makeMap 84 .none) 84 [] ⟨[(87, tJPlayb8)], ⟨0, 0, 0, 6, 3⟩⟩ (.some (.lf (.val 0))) ⟨[(87, tJPlayb8)], ⟨0, 0, 1, 6, 3⟩⟩ (.gen (.makeMap 85 .none) 85 [] ⟨[(87, tJPlayb8)], ⟨0, 0, 1, 6, 3⟩⟩ (.some (.lf (.val 1))) ⟨[(87, tJPlayb8)], ⟨0, 0, 2, 6, 3⟩⟩ (.call 15 [(.lf (tSl 0 0 1))] ⟨[(87, tJPlayb8), (87, [(tSl 2 4 5), (.val 0), (.val 1)])], ⟨0, 0, 2, 6, 3⟩⟩ (.agg tJPlayb2) ⟨[(87, tJPlayb8), (87, [(tSl 2 4 5), (.val 0), (.val 1)])], ⟨18, 0, 2, 10, 5⟩⟩ (.loop 4 ⟨[(.lit 0), (.var 0), (.var 1), (.var 2), (.var 3), (.var 4), (.var 5), (.var 6), (.var 7), (.var 8), (.var 9), (.var 10), (.var 11), (.var 12), (.var 13), (.var 14), (.var 15), (.var 16), (.var 17)], [], [(.val 0), (.val 1)], [(.var 4), (.var 5), (.var 6), (.var 7), (.var 8), (.var 9)], [(.var 2), (.var 3), (.var 4)]⟩ ⟨[(87, tJPlayb8), (87, [(tSl 2 4 5), (.val 0), (.val 1)]), (54, tJPlayb2)], ⟨18, 0, 2, 10, 5⟩⟩ tJPlaym23 (.br (.cmp .lss (.var 18) (.nat 2)) (.need (.inb 1 (.var 18) (.nat 2)) (.ld .false (.adr 1 (.var 18) 6 0) tJPlayb7 tJPlaym23 ⟨[(87, tJPlayb8), (87, [(tSl 5 10 11), (.val 2), (.val 3)]), (54, tJPlayb1)], ⟨41, 0, 4, 20, 10⟩⟩ (.br (.cmp .neq (.var 40) (.lit 1)) (.call 17 [(.agg tJPlayb1), (.lf (tVi 37)), (.agg [(tVi 40), (tSl 8 16 17), (tSl 9 18 19)])] tJPlaym21 (.tup [(.true, tJPlayb0), (.false, [(tSl 12 24 25)]), (.false, [(tVi 59)])]) tJPlaym22 (.br (.cmp .neq (.var 59) (.lit 0)) (.done (.tup [(.true, [(tSl 5 10 11), (.val 2), (.val 3)]), (.false, [(tVi 59)])]) tJPlaym19) (.again 4 ⟨[(.op .add .i64 (.var 18) (.lit 1)), (.var 41), (.var 42), (.var 43), (.var 44), (.var 45), (.var 46), (.var 47), (.var 48), (.var 49), (.var 50), (.var 51), (.var 52), (.var 53), (.var 54), (.var 55), (.var 56), (.var 57), (.var 58)], [], [(.val 2), (.val 3)], [(.var 10), (.var 11), (.var 20), (.var 21), (.var 22), (.var 23)], [(.var 5), (.var 10), (.var 11)]⟩ ⟨[(87, tJPlayb8), (87, [(tSl 5 10 11), (.val 2), (.val 3)]), (54, tJPlayb0), (39, tJPlayb7), (54, tJPlayb0)], ⟨60, 0, 4, 26, 13⟩⟩))) (.call 17 [(.agg tJPlayb1), (.lf (tVi 37)), (.agg [(tVi 40), (tSl 8 16 17), (tSl 9 18 19)])] tJPlaym21 (.tup [(.true, tJPlayb0), (.false, [(tSl 12 24 25)]), (.false, [(tVi 59)])]) tJPlaym22 (.br (.cmp .neq (.var 59) (.lit 0)) (.done (.tup [(.true, [(tSl 5 10 11), (.val 2), (.val 3)]), (.false, [(tVi 59)])]) tJPlaym19) (.loop 15 ⟨[(.lit 0)], [], [(.val 2), (.val 3)], [(.var 10), (.var 11)], [(.var 5)]⟩ ⟨[(87, tJPlayb8), (87, [(tSl 5 10 11), (.val 2), (.val 3)]), (54, tJPlayb1), (39, tJPlayb7), (54, tJPlayb0)], ⟨60, 0, 4, 26, 13⟩⟩ tJPlaym20 (.br (.cmp .lss (.var 60) (.nat 16)) (.need (.inb 8 (.var 60) (.nat 16)) (.ld .false (.adr 8 (.var 60) 8 0) tJPlayb6 tJPlaym20 ⟨[(87, tJPlayb8), (87, [(tSl 13 26 27), (.val 4), (.val 5)]), (54, tJPlayb1), (39, tJPlayb7), (54, tJPlayb0)], ⟨69, 0, 6, 28, 14⟩⟩ (.gen (.lookup 84 (.tmp 86) (.tmp 87) .true) 92 [(86, (.lf (.val 4))), (87, (.agg [(tVi 61), (tVi 62)]))] ⟨[(87, tJPlayb8), (87, [(tSl 13 26 27), (.val 4), (.val 5)]), (54, tJPlayb1), (39, tJPlayb7), (54, tJPlayb0), (43, tJPlayb6), (91, [(tVi 61), (tVi 62)])], ⟨69, 0, 6, 28, 14⟩⟩ (.some (.tup [(.false, [(tVi 69)]), (.false, [(.bool (.var 0))])])) tJPlaym18 (.need (.inb 12 (.var 60) (.nat 24)) (.ld .true (.adr 12 (.var 60) 5 2) [(tVi 70), (tVi 71), (tVi 72)] tJPlaym18 ⟨[(87, tJPlayb8), (87, [(tSl 13 26 27), (.val 4), (.val 5)]), (54, tJPlayb1), (39, tJPlayb7), (54, tJPlayb0), (43, tJPlayb6), (91, [(tVi 61), (tVi 62)])], ⟨73, 1, 6, 28, 14⟩⟩ (.br (.var 0) (.again 15 ⟨[(.op .add .i64 (.var 60) (.lit 1))], [], [(.val 4), (.val 5)], [(.var 26), (.var 27)], [(.var 13)]⟩ tJPlaym16) (.br (.cmp .gtr (.var 70) (.lit 3)) (.again 15 ⟨[(.op .add .i64 (.var 60) (.lit 1))], [], [(.val 4), (.val 5)], [(.var 26), (.var 27)], [(.var 13)]⟩ tJPlaym16) (.need (.inb 13 (.op .sub .i64 (.nat 26) (.lit 1)) (.nat 26)) (.par (.ld .true (.adr 13 (.op .sub .i64 (.nat 26) (.lit 1)) 16 0) tJPlayb4 tJPlaym16 tJPlaym17 (.par (.call 31 [(.agg tJPlayb4), (.agg tJPlayb9)] tJPlaym17 (.tup [(.true, tJPlayb3), (.true, [(tVi 105), (tVi 106), (tVi 107)])]) ⟨[(87, tJPlayb8), (87, [(tSl 13 26 27), (.val 4), (.val 5)]), (54, tJPlayb1), (39, tJPlayb7), (54, tJPlayb0), (43, tJPlayb6), (91, [(tVi 61), (tVi 62)]), (62, [(tVi 70), (tVi 71), (tVi 72)])], ⟨108, 1, 6, 28, 14⟩⟩ (.par tJPlayt4 tJPlayt5)) (.par tJPlayt0 tJPlayt1))) (.par (.par (.ld .true (.adr 13 (.op .sub .i64 (.nat 26) (.lit 1)) 16 0) tJPlayb4 ⟨[(87, tJPlayb8), (87, [(tSl 13 26 27), (.val 4), (.val 5)]), (54, tJPlayb1), (39, tJPlayb7), (54, tJPlayb0), (43, tJPlayb6), (91, [(tVi 61), (tVi 62)]), (62, [(tVi 70), (tVi 71), (tVi 72)]), (93, tJPlayb5)], ⟨73, 1, 6, 28, 14⟩⟩ tJPlaym15 tJPlayt0) (.ld .true (.adr 13 (.op .sub .i64 (.nat 26) (.lit 1)) 16 0) tJPlayb4 ⟨[(87, tJPlayb8), (87, [(tSl 13 26 27), (.val 4), (.val 5)]), (54, tJPlayb1), (39, tJPlayb7), (54, tJPlayb0), (43, tJPlayb6), (91, [(tVi 61), (tVi 62)]), (62, [(tVi 70), (tVi 71), (tVi 72)]), (93, tJPlayb5), (62, [(tLi 0), (tLi 0), (tLi 0)])], ⟨73, 1, 6, 28, 14⟩⟩ tJPlaym10 tJPlayt2)) (.par (.ld .true (.adr 13 (.op .sub .i64 (.nat 26) (.lit 1)) 16 0) tJPlayb4 ⟨[(87, tJPlayb8), (87, [(tSl 13 26 27), (.val 4), (.val 5)]), (54, tJPlayb1), (39, tJPlayb7), (54, tJPlayb0), (43, tJPlayb6), (91, [(tVi 61), (tVi 62)]), (62, [(tVi 70), (tVi 71), (tVi 72)]), (62, [(tLi 0), (tLi 0), (tLi 0)])], ⟨73, 1, 6, 28, 14⟩⟩ tJPlaym13 tJPlayt1) (.ld .true (.adr 13 (.op .sub .i64 (.nat 26) (.lit 1)) 16 0) tJPlayb4 ⟨[(87, tJPlayb8), (87, [(tSl 13 26 27), (.val 4), (.val 5)]), (54, tJPlayb1), (39, tJPlayb7), (54, tJPlayb0), (43, tJPlayb6), (91, [(tVi 61), (tVi 62)]), (62, [(tVi 70), (tVi 71), (tVi 72)]), (62, [(tLi 0), (tLi 0), (tLi 0)]), (93, tJPlayb5)], ⟨73, 1, 6, 28, 14⟩⟩ tJPlaym11 tJPlayt3)))))))))))) (.again 4 ⟨[(.op .add .i64 (.var 18) (.lit 1)), (.var 41), (.var 42), (.var 43), (.var 44), (.var 45), (.var 46), (.var 47), (.var 48), (.var 49), (.var 50), (.var 51), (.var 52), (.var 53), (.var 54), (.var 55), (.var 56), (.var 57), (.var 58)], [], [(.val 4), (.val 5)], [(.var 26), (.var 27), (.var 20), (.var 21), (.var 22), (.var 23)], [(.var 13), (.var 10), (.var 11)]⟩ ⟨[(87, tJPlayb8), (87, [(tSl 13 26 27), (.val 4), (.val 5)]), (54, tJPlayb0), (39, tJPlayb7), (54, tJPlayb0)], ⟨61, 0, 6, 28, 14⟩⟩)))))))) (.done (.tup [(.true, [(tSl 5 10 11), (.val 2), (.val 3)]), (.false, [(tLi 0)])]) ⟨[(87, [(tSl 5 10 11), (.val 2), (.val 3)]), (87, [(tSl 5 10 11), (.val 2), (.val 3)]), (54, tJPlayb1)], ⟨37, 0, 4, 16, 8⟩⟩))))))) := by kernel_rfl
abbrev tJCheckb0 : List LV := [(tVi 21), (tVi 22), (tVi 23), (tVi 24), (tVi 25), (tVi 26), (tVi 27), (tVi 28), (tVi 29), (tVi 30), (tVi 31), (tVi 32), (tVi 33), (tVi 34), (tVi 35), (tVi 36)]
abbrev tJCheckb1 : List LV := [(tVi 37), (tVi 38), (tVi 39), (tVi 40), (tVi 41), (tVi 42), (tVi 43), (tVi 44), (tVi 45), (tVi 46), (tVi 47), (tVi 48), (tVi 49), (tVi 50), (tVi 51), (tVi 52)]
abbrev tJCheckb2 : List LV := [(tVi 18), (tVi 19), (tVi 20), (tVi 21), (tVi 22), (tVi 23), (tVi 24), (tVi 25), (tVi 26), (tVi 27), (tVi 28), (tVi 29), (tVi 30), (tVi 31), (tVi 32), (tVi 33)]
abbrev tJCheckb3 : List LV := [(tVi 34), (tVi 35), (tVi 36), (tVi 37), (tVi 38), (tVi 39), (tVi 40), (tVi 41), (tVi 42), (tVi 43), (tVi 44), (tVi 45), (tVi 46), (tVi 47), (tVi 48), (tVi 49)]
abbrev tJCheckb4 : List LV := [(tLi 0), (tLi 0), (tLi 0), (tLi 0), (tLi 0), (tLi 0), (tLi 0), (tLi 0), (tLi 0), (tLi 0), (tLi 0), (tLi 0), (tLi 0), (tLi 0), (tLi 0), (tLi 0)]
abbrev tJCheckb5 : List LV := [(tVi 3), (tVi 4), (tVi 5), (tVi 6), (tVi 7), (tVi 8), (tVi 9), (tVi 10), (tVi 11), (tVi 12), (tVi 13), (tVi 14)]
abbrev tJCheckm0 : Mem := ⟨[(87, [(tSl 3 6 7), (.val 0), (.val 1)]), (66, tJCheckb5), (91, [(tVi 4), (tVi 5)]), (93, tJCheckb1), (62, [(tVi 53), (tVi 54), (tVi 55)])], ⟨56, 4, 3, 8, 4⟩⟩
abbrev tJCheckm1 : Mem := ⟨[(87, [(tSl 3 6 7), (.val 0), (.val 1)]), (66, tJCheckb5), (91, [(tVi 4), (tVi 5)]), (62, [(tVi 53), (tVi 54), (tVi 55)]), (93, tJCheckb1)], ⟨56, 4, 3, 8, 4⟩⟩
abbrev tJCheckm2 : Mem := ⟨[(87, [(tSl 3 6 7), (.val 0), (.val 1)]), (66, tJCheckb5), (91, [(tVi 4), (tVi 5)]), (93, tJCheckb3), (62, [(tVi 50), (tVi 51), (tVi 52)])], ⟨53, 4, 3, 8, 4⟩⟩
abbrev tJCheckm3 : Mem := ⟨[(87, [(tSl 3 6 7), (.val 0), (.val 1)]), (66, tJCheckb5), (91, [(tVi 4), (tVi 5)]), (62, [(tVi 50), (tVi 51), (tVi 52)]), (93, tJCheckb3)], ⟨53, 4, 3, 8, 4⟩⟩
abbrev tJCheckm4 : Mem := ⟨[(87, [(tSl 3 6 7), (.val 0), (.val 1)]), (66, tJCheckb5), (91, [(tVi 4), (tVi 5)]), (93, tJCheckb4), (62, [(tLi 0), (tLi 0), (tLi 0)])], ⟨37, 4, 3, 8, 4⟩⟩
abbrev tJCheckm5 : Mem := ⟨[(87, [(tSl 3 6 7), (.val 0), (.val 1)]), (66, tJCheckb5), (91, [(tVi 4), (tVi 5)]), (93, tJCheckb4), (62, [(tLi 0), (tLi 0), (tLi 0)])], ⟨56, 4, 3, 8, 4⟩⟩
abbrev tJCheckm6 : Mem := ⟨[(87, [(tSl 3 6 7), (.val 0), (.val 1)]), (66, tJCheckb5), (91, [(tVi 4), (tVi 5)]), (62, [(tLi 0), (tLi 0), (tLi 0)]), (93, tJCheckb4)], ⟨37, 4, 3, 8, 4⟩⟩
abbrev tJCheckm7 : Mem := ⟨[(87, [(tSl 3 6 7), (.val 0), (.val 1)]), (66, tJCheckb5), (91, [(tVi 4), (tVi 5)]), (62, [(tLi 0), (tLi 0), (tLi 0)]), (93, tJCheckb4)], ⟨56, 4, 3, 8, 4⟩⟩
abbrev tJCheckm8 : Mem := ⟨[(87, [(tSl 3 6 7), (.val 0), (.val 1)]), (66, tJCheckb5), (91, [(tVi 4), (tVi 5)]), (93, tJCheckb4), (62, [(tLi 0), (tLi 0), (tLi 0)])], ⟨21, 4, 3, 8, 4⟩⟩
abbrev tJCheckm9 : Mem := ⟨[(87, [(tSl 3 6 7), (.val 0), (.val 1)]), (66, tJCheckb5), (91, [(tVi 4), (tVi 5)]), (62, [(tLi 0), (tLi 0), (tLi 0)]), (93, tJCheckb4)], ⟨21, 4, 3, 8, 4⟩⟩
abbrev tJCheckm10 : Mem := ⟨[(87, [(tSl 3 6 7), (.val 0), (.val 1)]), (66, tJCheckb5), (91, [(tVi 4), (tVi 5)]), (93, tJCheckb4), (62, [(tLi 0), (tLi 0), (tLi 0)])], ⟨34, 4, 3, 8, 4⟩⟩
abbrev tJCheckm11 : Mem := ⟨[(87, [(tSl 3 6 7), (.val 0), (.val 1)]), (66, tJCheckb5), (91, [(tVi 4), (tVi 5)]), (93, tJCheckb4), (62, [(tLi 0), (tLi 0), (tLi 0)])], ⟨53, 4, 3, 8, 4⟩⟩
abbrev tJCheckm12 : Mem := ⟨[(87, [(tSl 3 6 7), (.val 0), (.val 1)]), (66, tJCheckb5), (91, [(tVi 4), (tVi 5)]), (62, [(tLi 0), (tLi 0), (tLi 0)]), (93, tJCheckb4)], ⟨34, 4, 3, 8, 4⟩⟩
abbrev tJCheckm13 : Mem := ⟨[(87, [(tSl 3 6 7), (.val 0), (.val 1)]), (66, tJCheckb5), (91, [(tVi 4), (tVi 5)]), (62, [(tLi 0), (tLi 0), (tLi 0)]), (93, tJCheckb4)], ⟨53, 4, 3, 8, 4⟩⟩
abbrev tJCheckm14 : Mem := ⟨[(87, [(tSl 3 6 7), (.val 0), (.val 1)]), (66, tJCheckb5), (91, [(tVi 4), (tVi 5)]), (93, tJCheckb4), (62, [(tLi 0), (tLi 0), (tLi 0)])], ⟨18, 4, 3, 8, 4⟩⟩
abbrev tJCheckm15 : Mem := ⟨[(87, [(tSl 3 6 7), (.val 0), (.val 1)]), (66, tJCheckb5), (91, [(tVi 4), (tVi 5)]), (62, [(tLi 0), (tLi 0), (tLi 0)]), (93, tJCheckb4)], ⟨18, 4, 3, 8, 4⟩⟩
abbrev tJCheckm16 : Mem := ⟨[(87, [(tSl 3 6 7), (.val 0), (.val 1)]), (66, tJCheckb5), (91, [(tVi 4), (tVi 5)]), (62, [(tLi 0), (tLi 0), (tLi 0)])], ⟨37, 4, 3, 8, 4⟩⟩
abbrev tJCheckm17 : Mem := ⟨[(87, [(tSl 3 6 7), (.val 0), (.val 1)]), (66, tJCheckb5), (91, [(tVi 4), (tVi 5)]), (62, [(tLi 0), (tLi 0), (tLi 0)])], ⟨56, 4, 3, 8, 4⟩⟩
abbrev tJCheckm18 : Mem := ⟨[(87, [(tSl 3 6 7), (.val 0), (.val 1)]), (66, tJCheckb5), (91, [(tVi 4), (tVi 5)]), (62, [(tLi 0), (tLi 0), (tLi 0)])], ⟨21, 4, 3, 8, 4⟩⟩
abbrev tJCheckm19 : Mem := ⟨[(87, [(tSl 3 6 7), (.val 0), (.val 1)]), (66, tJCheckb5), (91, [(tVi 4), (tVi 5)]), (62, [(tLi 0), (tLi 0), (tLi 0)])], ⟨34, 4, 3, 8, 4⟩⟩
abbrev tJCheckm20 : Mem := ⟨[(87, [(tSl 3 6 7), (.val 0), (.val 1)]), (66, tJCheckb5), (91, [(tVi 4), (tVi 5)]), (62, [(tLi 0), (tLi 0), (tLi 0)])], ⟨53, 4, 3, 8, 4⟩⟩
abbrev tJCheckm21 : Mem := ⟨[(87, [(tSl 3 6 7), (.val 0), (.val 1)]), (66, tJCheckb5), (91, [(tVi 4), (tVi 5)]), (62, [(tLi 0), (tLi 0), (tLi 0)])], ⟨18, 4, 3, 8, 4⟩⟩
abbrev tJCheckm22 : Mem := ⟨[(87, [(tSl 3 6 7), (.val 0), (.val 1)]), (66, tJCheckb5), (91, [(tVi 4), (tVi 5)]), (93, tJCheckb4)], ⟨37, 4, 3, 8, 4⟩⟩
abbrev tJCheckm23 : Mem := ⟨[(87, [(tSl 3 6 7), (.val 0), (.val 1)]), (66, tJCheckb5), (91, [(tVi 4), (tVi 5)]), (93, tJCheckb4)], ⟨56, 4, 3, 8, 4⟩⟩
abbrev tJCheckm24 : Mem := ⟨[(87, [(tSl 3 6 7), (.val 0), (.val 1)]), (66, tJCheckb5), (91, [(tVi 4), (tVi 5)]), (93, tJCheckb4)], ⟨21, 4, 3, 8, 4⟩⟩
abbrev tJCheckm25 : Mem := ⟨[(87, [(tSl 3 6 7), (.val 0), (.val 1)]), (66, tJCheckb5), (91, [(tVi 4), (tVi 5)]), (93, tJCheckb4)], ⟨34, 4, 3, 8, 4⟩⟩
abbrev tJCheckm26 : Mem := ⟨[(87, [(tSl 3 6 7), (.val 0), (.val 1)]), (66, tJCheckb5), (91, [(tVi 4), (tVi 5)]), (93, tJCheckb4)], ⟨53, 4, 3, 8, 4⟩⟩
abbrev tJCheckm27 : Mem := ⟨[(87, [(tSl 3 6 7), (.val 0), (.val 1)]), (66, tJCheckb5), (91, [(tVi 4), (tVi 5)]), (93, tJCheckb4)], ⟨18, 4, 3, 8, 4⟩⟩
abbrev tJCheckm28 : Mem := ⟨[(87, [(tSl 3 6 7), (.val 0), (.val 1)]), (66, tJCheckb5), (91, [(tVi 4), (tVi 5)])], ⟨15, 2, 3, 8, 4⟩⟩
abbrev tJCheckm29 : Mem := ⟨[(87, [(tSl 3 6 7), (.val 0), (.val 1)]), (66, tJCheckb5), (91, [(tVi 4), (tVi 5)])], ⟨16, 3, 3, 8, 4⟩⟩
abbrev tJCheckm30 : Mem := ⟨[(87, [(tSl 3 6 7), (.val 0), (.val 1)]), (66, tJCheckb5), (91, [(tVi 4), (tVi 5)])], ⟨17, 4, 3, 8, 4⟩⟩
abbrev tJCheckm31 : Mem := ⟨[(87, [(tSl 3 6 7), (.val 0), (.val 1)]), (66, tJCheckb5), (91, [(tVi 4), (tVi 5)])], ⟨18, 7, 3, 8, 4⟩⟩
abbrev tJCheckm32 : Mem := ⟨[(87, [(tSl 3 6 7), (.val 0), (.val 1)]), (66, tJCheckb5), (91, [(tVi 4), (tVi 5)])], ⟨20, 4, 3, 8, 4⟩⟩
abbrev tJCheckm33 : Mem := ⟨[(87, [(tSl 3 6 7), (.val 0), (.val 1)]), (66, tJCheckb5), (91, [(tVi 4), (tVi 5)])], ⟨21, 4, 3, 8, 4⟩⟩
abbrev tJCheckm34 : Mem := ⟨[(87, [(tSl 3 6 7), (.val 0), (.val 1)]), (66, tJCheckb5), (91, [(tVi 4), (tVi 5)])], ⟨37, 4, 3, 8, 4⟩⟩
abbrev tJCheckm35 : Mem := ⟨[(87, [(tSl 3 6 7), (.val 0), (.val 1)]), (66, tJCheckb5), (91, [(tVi 4), (tVi 5)])], ⟨56, 4, 3, 8, 4⟩⟩
abbrev tJCheckm36 : Mem := ⟨[(87, [(tSl 3 6 7), (.val 0), (.val 1)]), (66, tJCheckb5), (91, [(tVi 4), (tVi 5)])], ⟨23, 4, 3, 8, 4⟩⟩
abbrev tJCheckm37 : Mem := ⟨[(87, [(tSl 3 6 7), (.val 0), (.val 1)]), (66, tJCheckb5), (91, [(tVi 4), (tVi 5)])], ⟨18, 4, 3, 8, 4⟩⟩
abbrev tJCheckm38 : Mem := ⟨[(87, [(tSl 3 6 7), (.val 0), (.val 1)]), (66, tJCheckb5), (91, [(tVi 4), (tVi 5)])], ⟨34, 4, 3, 8, 4⟩⟩
abbrev tJCheckm39 : Mem := ⟨[(87, [(tSl 3 6 7), (.val 0), (.val 1)]), (66, tJCheckb5), (91, [(tVi 4), (tVi 5)])], ⟨53, 4, 3, 8, 4⟩⟩
abbrev tJCheckm40 : Mem := ⟨[(87, [(tSl 3 6 7), (.val 0), (.val 1)])], ⟨1, 1, 2, 8, 4⟩⟩
abbrev tJCheckm41 : Mem := ⟨[(87, [(tSl 3 6 7), (.val 0), (.val 1)])], ⟨1, 1, 3, 8, 4⟩⟩
abbrev tJCheckm42 : Mem := ⟨[(87, [(tSl 3 6 7), (.val 0), (.val 1)])], ⟨3, 2, 3, 8, 4⟩⟩
abbrev tJCheckt8 : Tree := (.par (.call 31 [(.agg tJCheckb0), (.agg [(tVi 6), (tVi 7), (tVi 8), (tVi 9), (tVi 10)])] tJCheckm16 (.tup [(.true, tJCheckb1), (.true, [(tVi 53), (tVi 54), (tVi 55)])]) tJCheckm17 (.br (.not (.and (.cmp .eql (.var 53) (.var 11)) (.and (.cmp .eql (.var 54) (.var 12)) (.cmp .eql (.var 55) (.var 13))))) (.again 26 ⟨[(.op .add .i64 (.var 20) (.lit 1))], [], [], [], []⟩ tJCheckm1) (.again 34 ⟨[(.var 20)], [(.var 1), (.lit .true), (.lit .true)], [], [], []⟩ tJCheckm1))) (.call 31 [(.agg tJCheckb0), (.agg [(tVi 6), (tVi 7), (tVi 8), (tVi 9), (tVi 10)])] tJCheckm6 (.tup [(.true, tJCheckb1), (.true, [(tVi 53), (tVi 54), (tVi 55)])]) tJCheckm7 (.br (.not (.and (.cmp .eql (.var 53) (.var 11)) (.and (.cmp .eql (.var 54) (.var 12)) (.cmp .eql (.var 55) (.var 13))))) (.again 26 ⟨[(.op .add .i64 (.var 20) (.lit 1))], [], [], [], []⟩ tJCheckm1) (.again 34 ⟨[(.var 20)], [(.var 1), (.lit .true), (.lit .true)], [], [], []⟩ tJCheckm1))))
abbrev tJCheckt7 : Tree := (.par (.call 31 [(.agg tJCheckb0), (.agg [(tVi 6), (tVi 7), (tVi 8), (tVi 9), (tVi 10)])] tJCheckm22 (.tup [(.true, tJCheckb1), (.true, [(tVi 53), (tVi 54), (tVi 55)])]) tJCheckm23 (.br (.not (.and (.cmp .eql (.var 53) (.var 11)) (.and (.cmp .eql (.var 54) (.var 12)) (.cmp .eql (.var 55) (.var 13))))) (.again 26 ⟨[(.op .add .i64 (.var 20) (.lit 1))], [], [], [], []⟩ tJCheckm0) (.again 34 ⟨[(.var 20)], [(.var 1), (.lit .true), (.lit .true)], [], [], []⟩ tJCheckm0))) (.call 31 [(.agg tJCheckb0), (.agg [(tVi 6), (tVi 7), (tVi 8), (tVi 9), (tVi 10)])] tJCheckm4 (.tup [(.true, tJCheckb1), (.true, [(tVi 53), (tVi 54), (tVi 55)])]) tJCheckm5 (.br (.not (.and (.cmp .eql (.var 53) (.var 11)) (.and (.cmp .eql (.var 54) (.var 12)) (.cmp .eql (.var 55) (.var 13))))) (.again 26 ⟨[(.op .add .i64 (.var 20) (.lit 1))], [], [], [], []⟩ tJCheckm0) (.again 34 ⟨[(.var 20)], [(.var 1), (.lit .true), (.lit .true)], [], [], []⟩ tJCheckm0))))
abbrev tJCheckt6 : Tree := (.par (.call 31 [(.agg tJCheckb2), (.agg [(tVi 6), (tVi 7), (tVi 8), (tVi 9), (tVi 10)])] tJCheckm19 (.tup [(.true, tJCheckb3), (.true, [(tVi 50), (tVi 51), (tVi 52)])]) tJCheckm20 (.br (.not (.and (.cmp .eql (.var 50) (.var 11)) (.and (.cmp .eql (.var 51) (.var 12)) (.cmp .eql (.var 52) (.var 13))))) (.again 26 ⟨[(.op .add .i64 (.var 17) (.lit 1))], [], [], [], []⟩ tJCheckm3) (.again 34 ⟨[(.var 17)], [(.var 1), (.lit .false), (.lit .false)], [], [], []⟩ tJCheckm3))) (.call 31 [(.agg tJCheckb2), (.agg [(tVi 6), (tVi 7), (tVi 8), (tVi 9), (tVi 10)])] tJCheckm12 (.tup [(.true, tJCheckb3), (.true, [(tVi 50), (tVi 51), (tVi 52)])]) tJCheckm13 (.br (.not (.and (.cmp .eql (.var 50) (.var 11)) (.and (.cmp .eql (.var 51) (.var 12)) (.cmp .eql (.var 52) (.var 13))))) (.again 26 ⟨[(.op .add .i64 (.var 17) (.lit 1))], [], [], [], []⟩ tJCheckm3) (.again 34 ⟨[(.var 17)], [(.var 1), (.lit .false), (.lit .false)], [], [], []⟩ tJCheckm3))))
abbrev tJCheckt5 : Tree := (.par (.call 31 [(.agg tJCheckb2), (.agg [(tVi 6), (tVi 7), (tVi 8), (tVi 9), (tVi 10)])] tJCheckm25 (.tup [(.true, tJCheckb3), (.true, [(tVi 50), (tVi 51), (tVi 52)])]) tJCheckm26 (.br (.not (.and (.cmp .eql (.var 50) (.var 11)) (.and (.cmp .eql (.var 51) (.var 12)) (.cmp .eql (.var 52) (.var 13))))) (.again 26 ⟨[(.op .add .i64 (.var 17) (.lit 1))], [], [], [], []⟩ tJCheckm2) (.again 34 ⟨[(.var 17)], [(.var 1), (.lit .false), (.lit .false)], [], [], []⟩ tJCheckm2))) (.call 31 [(.agg tJCheckb2), (.agg [(tVi 6), (tVi 7), (tVi 8), (tVi 9), (tVi 10)])] tJCheckm10 (.tup [(.true, tJCheckb3), (.true, [(tVi 50), (tVi 51), (tVi 52)])]) tJCheckm11 (.br (.not (.and (.cmp .eql (.var 50) (.var 11)) (.and (.cmp .eql (.var 51) (.var 12)) (.cmp .eql (.var 52) (.var 13))))) (.again 26 ⟨[(.op .add .i64 (.var 17) (.lit 1))], [], [], [], []⟩ tJCheckm2) (.again 34 ⟨[(.var 17)], [(.var 1), (.lit .false), (.lit .false)], [], [], []⟩ tJCheckm2))))
abbrev tJCheckt4 : Tree := (.par (.call 31 [(.agg tJCheckb0), (.agg [(tVi 6), (tVi 7), (tVi 8), (tVi 9), (tVi 10)])] tJCheckm16 (.tup [(.true, tJCheckb1), (.true, [(tVi 53), (tVi 54), (tVi 55)])]) tJCheckm17 (.br (.not (.and (.cmp .eql (.var 53) (.var 11)) (.and (.cmp .eql (.var 54) (.var 12)) (.cmp .eql (.var 55) (.var 13))))) (.again 26 ⟨[(.op .add .i64 (.var 20) (.lit 1))], [], [], [], []⟩ tJCheckm1) (.again 34 ⟨[(.var 20)], [(.lit .false), (.lit .true), (.lit .true)], [], [], []⟩ tJCheckm1))) (.call 31 [(.agg tJCheckb0), (.agg [(tVi 6), (tVi 7), (tVi 8), (tVi 9), (tVi 10)])] tJCheckm6 (.tup [(.true, tJCheckb1), (.true, [(tVi 53), (tVi 54), (tVi 55)])]) tJCheckm7 (.br (.not (.and (.cmp .eql (.var 53) (.var 11)) (.and (.cmp .eql (.var 54) (.var 12)) (.cmp .eql (.var 55) (.var 13))))) (.again 26 ⟨[(.op .add .i64 (.var 20) (.lit 1))], [], [], [], []⟩ tJCheckm1) (.again 34 ⟨[(.var 20)], [(.lit .false), (.lit .true), (.lit .true)], [], [], []⟩ tJCheckm1))))
abbrev tJCheckt3 : Tree := (.par (.call 31 [(.agg tJCheckb0), (.agg [(tVi 6), (tVi 7), (tVi 8), (tVi 9), (tVi 10)])] tJCheckm22 (.tup [(.true, tJCheckb1), (.true, [(tVi 53), (tVi 54), (tVi 55)])]) tJCheckm23 (.br (.not (.and (.cmp .eql (.var 53) (.var 11)) (.and (.cmp .eql (.var 54) (.var 12)) (.cmp .eql (.var 55) (.var 13))))) (.again 26 ⟨[(.op .add .i64 (.var 20) (.lit 1))], [], [], [], []⟩ tJCheckm0) (.again 34 ⟨[(.var 20)], [(.lit .false), (.lit .true), (.lit .true)], [], [], []⟩ tJCheckm0))) (.call 31 [(.agg tJCheckb0), (.agg [(tVi 6), (tVi 7), (tVi 8), (tVi 9), (tVi 10)])] tJCheckm4 (.tup [(.true, tJCheckb1), (.true, [(tVi 53), (tVi 54), (tVi 55)])]) tJCheckm5 (.br (.not (.and (.cmp .eql (.var 53) (.var 11)) (.and (.cmp .eql (.var 54) (.var 12)) (.cmp .eql (.var 55) (.var 13))))) (.again 26 ⟨[(.op .add .i64 (.var 20) (.lit 1))], [], [], [], []⟩ tJCheckm0) (.again 34 ⟨[(.var 20)], [(.lit .false), (.lit .true), (.lit .true)], [], [], []⟩ tJCheckm0))))
abbrev tJCheckt2 : Tree := (.par (.call 31 [(.agg tJCheckb2), (.agg [(tVi 6), (tVi 7), (tVi 8), (tVi 9), (tVi 10)])] tJCheckm19 (.tup [(.true, tJCheckb3), (.true, [(tVi 50), (tVi 51), (tVi 52)])]) tJCheckm20 (.br (.not (.and (.cmp .eql (.var 50) (.var 11)) (.and (.cmp .eql (.var 51) (.var 12)) (.cmp .eql (.var 52) (.var 13))))) (.again 26 ⟨[(.op .add .i64 (.var 17) (.lit 1))], [], [], [], []⟩ tJCheckm3) (.again 34 ⟨[(.var 17)], [(.lit .false), (.lit .false), (.lit .false)], [], [], []⟩ tJCheckm3))) (.call 31 [(.agg tJCheckb2), (.agg [(tVi 6), (tVi 7), (tVi 8), (tVi 9), (tVi 10)])] tJCheckm12 (.tup [(.true, tJCheckb3), (.true, [(tVi 50), (tVi 51), (tVi 52)])]) tJCheckm13 (.br (.not (.and (.cmp .eql (.var 50) (.var 11)) (.and (.cmp .eql (.var 51) (.var 12)) (.cmp .eql (.var 52) (.var 13))))) (.again 26 ⟨[(.op .add .i64 (.var 17) (.lit 1))], [], [], [], []⟩ tJCheckm3) (.again 34 ⟨[(.var 17)], [(.lit .false), (.lit .false), (.lit .false)], [], [], []⟩ tJCheckm3))))
abbrev tJCheckt1 : Tree := (.par (.call 31 [(.agg tJCheckb2), (.agg [(tVi 6), (tVi 7), (tVi 8), (tVi 9), (tVi 10)])] tJCheckm25 (.tup [(.true, tJCheckb3), (.true, [(tVi 50), (tVi 51), (tVi 52)])]) tJCheckm26 (.br (.not (.and (.cmp .eql (.var 50) (.var 11)) (.and (.cmp .eql (.var 51) (.var 12)) (.cmp .eql (.var 52) (.var 13))))) (.again 26 ⟨[(.op .add .i64 (.var 17) (.lit 1))], [], [], [], []⟩ tJCheckm2) (.again 34 ⟨[(.var 17)], [(.lit .false), (.lit .false), (.lit .false)], [], [], []⟩ tJCheckm2))) (.call 31 [(.agg tJCheckb2), (.agg [(tVi 6), (tVi 7), (tVi 8), (tVi 9), (tVi 10)])] tJCheckm10 (.tup [(.true, tJCheckb3), (.true, [(tVi 50), (tVi 51), (tVi 52)])]) tJCheckm11 (.br (.not (.and (.cmp .eql (.var 50) (.var 11)) (.and (.cmp .eql (.var 51) (.var 12)) (.cmp .eql (.var 52) (.var 13))))) (.again 26 ⟨[(.op .add .i64 (.var 17) (.lit 1))], [], [], [], []⟩ tJCheckm2) (.again 34 ⟨[(.var 17)], [(.lit .false), (.lit .false), (.lit .false)], [], [], []⟩ tJCheckm2))))
abbrev tJCheckt0 : Tree := (.br (.cmp .eql (.var 6) (.lit 1)) (.br (.var 1) (.again 34 ⟨[(.var 15)], [(.lit .true), (.lit .true), (.lit .true)], [], [], []⟩ tJCheckm32) (.br (.cmp .eql (.var 6) (.lit 1)) (.loop 26 ⟨[(.var 15)], [], [], [], []⟩ tJCheckm32 tJCheckm33 (.br (.cmp .geq (.var 20) (.nat 6)) (.done (.lf (tLi 63)) tJCheckm33) (.need (.inb 3 (.var 20) (.nat 6)) (.par (.ld .true (.adr 3 (.var 20) 16 0) tJCheckb0 tJCheckm33 tJCheckm34 (.par (.call 31 [(.agg tJCheckb0), (.agg [(tVi 6), (tVi 7), (tVi 8), (tVi 9), (tVi 10)])] tJCheckm34 (.tup [(.true, tJCheckb1), (.true, [(tVi 53), (tVi 54), (tVi 55)])]) tJCheckm35 (.par (.br (.not (.and (.cmp .eql (.var 53) (.var 11)) (.and (.cmp .eql (.var 54) (.var 12)) (.cmp .eql (.var 55) (.var 13))))) (.again 26 ⟨[(.op .add .i64 (.var 20) (.lit 1))], [], [], [], []⟩ tJCheckm0) (.again 34 ⟨[(.var 20)], [(.lit .false), (.lit .true), (.lit .true)], [], [], []⟩ tJCheckm0)) (.br (.not (.and (.cmp .eql (.var 53) (.var 11)) (.and (.cmp .eql (.var 54) (.var 12)) (.cmp .eql (.var 55) (.var 13))))) (.again 26 ⟨[(.op .add .i64 (.var 20) (.lit 1))], [], [], [], []⟩ tJCheckm1) (.again 34 ⟨[(.var 20)], [(.lit .false), (.lit .true), (.lit .true)], [], [], []⟩ tJCheckm1)))) (.par tJCheckt3 tJCheckt4))) (.par (.par (.ld .true (.adr 3 (.var 20) 16 0) tJCheckb0 tJCheckm24 tJCheckm22 tJCheckt3) (.ld .true (.adr 3 (.var 20) 16 0) tJCheckb0 tJCheckm8 tJCheckm4 (.call 31 [(.agg tJCheckb0), (.agg [(tVi 6), (tVi 7), (tVi 8), (tVi 9), (tVi 10)])] tJCheckm4 (.tup [(.true, tJCheckb1), (.true, [(tVi 53), (tVi 54), (tVi 55)])]) tJCheckm5 (.br (.not (.and (.cmp .eql (.var 53) (.var 11)) (.and (.cmp .eql (.var 54) (.var 12)) (.cmp .eql (.var 55) (.var 13))))) (.again 26 ⟨[(.op .add .i64 (.var 20) (.lit 1))], [], [], [], []⟩ tJCheckm0) (.again 34 ⟨[(.var 20)], [(.lit .false), (.lit .true), (.lit .true)], [], [], []⟩ tJCheckm0))))) (.par (.ld .true (.adr 3 (.var 20) 16 0) tJCheckb0 tJCheckm18 tJCheckm16 tJCheckt4) (.ld .true (.adr 3 (.var 20) 16 0) tJCheckb0 tJCheckm9 tJCheckm6 (.call 31 [(.agg tJCheckb0), (.agg [(tVi 6), (tVi 7), (tVi 8), (tVi 9), (tVi 10)])] tJCheckm6 (.tup [(.true, tJCheckb1), (.true, [(tVi 53), (tVi 54), (tVi 55)])]) tJCheckm7 (.br (.not (.and (.cmp .eql (.var 53) (.var 11)) (.and (.cmp .eql (.var 54) (.var 12)) (.cmp .eql (.var 55) (.var 13))))) (.again 26 ⟨[(.op .add .i64 (.var 20) (.lit 1))], [], [], [], []⟩ tJCheckm1) (.again 34 ⟨[(.var 20)], [(.lit .false), (.lit .true), (.lit .true)], [], [], []⟩ tJCheckm1)))))))))) (.gen (.lookup 85 (.tmp 130) (.tmp 131) .false) 62 [(130, (.lf (.val 1))), (131, (.agg [(tVi 4), (tVi 5)]))] tJCheckm32 (.some (.agg [(tVi 20), (tVi 21), (tVi 22)])) tJCheckm36 (.br (.not (.and (.cmp .eql (.var 20) (.var 11)) (.and (.cmp .eql (.var 21) (.var 12)) (.cmp .eql (.var 22) (.var 13))))) (.done (.lf (tLi 63)) tJCheckm36) (.done (.lf (tLi 60)) tJCheckm36))))) (.br (.cmp .eql (.var 6) (.lit 1)) (.loop 26 ⟨[(.var 15)], [], [], [], []⟩ tJCheckm32 tJCheckm33 (.br (.cmp .geq (.var 20) (.nat 6)) (.done (.lf (tLi 63)) tJCheckm33) (.need (.inb 3 (.var 20) (.nat 6)) (.par (.ld .true (.adr 3 (.var 20) 16 0) tJCheckb0 tJCheckm33 tJCheckm34 (.par (.call 31 [(.agg tJCheckb0), (.agg [(tVi 6), (tVi 7), (tVi 8), (tVi 9), (tVi 10)])] tJCheckm34 (.tup [(.true, tJCheckb1), (.true, [(tVi 53), (tVi 54), (tVi 55)])]) tJCheckm35 (.par (.br (.not (.and (.cmp .eql (.var 53) (.var 11)) (.and (.cmp .eql (.var 54) (.var 12)) (.cmp .eql (.var 55) (.var 13))))) (.again 26 ⟨[(.op .add .i64 (.var 20) (.lit 1))], [], [], [], []⟩ tJCheckm0) (.again 34 ⟨[(.var 20)], [(.var 1), (.lit .true), (.lit .true)], [], [], []⟩ tJCheckm0)) (.br (.not (.and (.cmp .eql (.var 53) (.var 11)) (.and (.cmp .eql (.var 54) (.var 12)) (.cmp .eql (.var 55) (.var 13))))) (.again 26 ⟨[(.op .add .i64 (.var 20) (.lit 1))], [], [], [], []⟩ tJCheckm1) (.again 34 ⟨[(.var 20)], [(.var 1), (.lit .true), (.lit .true)], [], [], []⟩ tJCheckm1)))) (.par tJCheckt7 tJCheckt8))) (.par (.par (.ld .true (.adr 3 (.var 20) 16 0) tJCheckb0 tJCheckm24 tJCheckm22 tJCheckt7) (.ld .true (.adr 3 (.var 20) 16 0) tJCheckb0 tJCheckm8 tJCheckm4 (.call 31 [(.agg tJCheckb0), (.agg [(tVi 6), (tVi 7), (tVi 8), (tVi 9), (tVi 10)])] tJCheckm4 (.tup [(.true, tJCheckb1), (.true, [(tVi 53), (tVi 54), (tVi 55)])]) tJCheckm5 (.br (.not (.and (.cmp .eql (.var 53) (.var 11)) (.and (.cmp .eql (.var 54) (.var 12)) (.cmp .eql (.var 55) (.var 13))))) (.again 26 ⟨[(.op .add .i64 (.var 20) (.lit 1))], [], [], [], []⟩ tJCheckm0) (.again 34 ⟨[(.var 20)], [(.var 1), (.lit .true), (.lit .true)], [], [], []⟩ tJCheckm0))))) (.par (.ld .true (.adr 3 (.var 20) 16 0) tJCheckb0 tJCheckm18 tJCheckm16 tJCheckt8) (.ld .true (.adr 3 (.var 20) 16 0) tJCheckb0 tJCheckm9 tJCheckm6 (.call 31 [(.agg tJCheckb0), (.agg [(tVi 6), (tVi 7), (tVi 8), (tVi 9), (tVi 10)])] tJCheckm6 (.tup [(.true, tJCheckb1), (.true, [(tVi 53), (tVi 54), (tVi 55)])]) tJCheckm7 (.br (.not (.and (.cmp .eql (.var 53) (.var 11)) (.and (.cmp .eql (.var 54) (.var 12)) (.cmp .eql (.var 55) (.var 13))))) (.again 26 ⟨[(.op .add .i64 (.var 20) (.lit 1))], [], [], [], []⟩ tJCheckm1) (.again 34 ⟨[(.var 20)], [(.var 1), (.lit .true), (.lit .true)], [], [], []⟩ tJCheckm1)))))))))) (.gen (.lookup 85 (.tmp 130) (.tmp 131) .false) 62 [(130, (.lf (.val 1))), (131, (.agg [(tVi 4), (tVi 5)]))] tJCheckm32 (.some (.agg [(tVi 20), (tVi 21), (tVi 22)])) tJCheckm36 (.br (.not (.and (.cmp .eql (.var 20) (.var 11)) (.and (.cmp .eql (.var 21) (.var 12)) (.cmp .eql (.var 22) (.var 13))))) (.done (.lf (tLi 63)) tJCheckm36) (.done (.lf (tLi 60)) tJCheckm36)))))
set_option maxRecDepth 100000 in
theorem tJCheck : (runF ⟨tt, fns, { cur := [3], ret := [(30, .tup [.agg [.sl, .val, .val], .lf (.int .i64)])], loops := [(7, ⟨[(34, .int .i64), (12, .int .i64), (3, .bool)], []⟩)], joins := [(34, ⟨[(18, .int .i64), (3, .bool), (19, .bool), (66, .bool)], []⟩)], gotos := [(26, ⟨[(18, .int .i64)], []⟩)] }⟩ (Try.f14.body.getD .skip) Try.f14.results.toList (entry Try.f14.ntmps [.lf (.sl 0 (.var 0) (.var 1)), .lf (.sl 1 (.var 2) (.var 3)), .lf (.sl 2 (.var 4) (.var 5)), .lf (.bool (.var 0))] [] ⟨0, 1, 0, 6, 3⟩)) =
  (.call 30 [(.lf (tSl 0 0 1)), (.lf (tSl 1 2 3))] ⟨[], ⟨0, 1, 0, 6, 3⟩⟩ (.tup [(.true, [(tSl 3 6 7), (.val 0), (.val 1)]), (.false, [(tVi 0)])]) ⟨[], ⟨1, 1, 2, 8, 4⟩⟩ (.br (.cmp .neq (.var 0) (.lit 0)) (.done (.lf (tVi 0)) tJCheckm40) (.gen (.makeMap 84 .none) 84 [] tJCheckm40 (.some (.lf (.val 2))) tJCheckm41 (.loop 7 ⟨[(.lit 0), (.lit 0)], [(.var 0)], [], [], []⟩ tJCheckm41 tJCheckm42 (.br (.cmp .lss (.var 1) (.nat 4)) (.need (.inb 2 (.var 1) (.nat 4)) (.ld .false (.adr 2 (.var 1) 12 0) tJCheckb5 tJCheckm42 ⟨[(87, [(tSl 3 6 7), (.val 0), (.val 1)])], ⟨15, 2, 3, 8, 4⟩⟩ (.br (.cmp .eql (.var 3) (.lit 1)) (.gen (.mapUpdate 84 (.tmp 47) (.tmp 48) (.tmp 49)) 0 [(47, (.lf (.val 2))), (48, (.agg [(tVi 4), (tVi 5)])), (49, (.lf (tVi 2)))] tJCheckm28 .none tJCheckm28 (.again 7 ⟨[(.op .add .i64 (.var 1) (.lit 1)), (.var 2)], [(.var 1)], [], [], []⟩ tJCheckm28)) (.br (.cmp .eql (.var 3) (.lit 2)) (.gen (.lookup 84 (.tmp 53) (.tmp 54) .true) 92 [(53, (.lf (.val 2))), (54, (.agg [(tVi 4), (tVi 5)]))] tJCheckm28 (.some (.tup [(.false, [(tVi 15)]), (.false, [(.bool (.var 2))])])) tJCheckm29 (.br (.not (.var 2)) (.done (.lf (tLi 41)) tJCheckm29) (.gen (.lookup 84 (.tmp 62) (.tmp 63) .true) 92 [(62, (.lf (.val 0))), (63, (.agg [(tVi 4), (tVi 5)]))] tJCheckm29 (.some (.tup [(.false, [(tVi 16)]), (.false, [(.bool (.var 3))])])) tJCheckm30 (.br (.cmp .gtr (.var 11) (.lit 3)) (.br (.var 3) (.done (.lf (tLi 63)) tJCheckm30) (.again 7 ⟨[(.op .add .i64 (.var 1) (.lit 1)), (.var 2)], [(.var 1)], [], [], []⟩ tJCheckm30)) (.join 34 tJCheckm30 tJCheckm31 (.br (.var 3) (.gen (.lookup 85 (.tmp 76) (.tmp 77) .false) 62 [(76, (.lf (.val 1))), (77, (.agg [(tVi 4), (tVi 5)]))] tJCheckm30 (.some (.agg [(tVi 17), (tVi 18), (tVi 19)])) tJCheckm32 (.br (.and (.cmp .eql (.var 17) (.var 11)) (.and (.cmp .eql (.var 18) (.var 12)) (.cmp .eql (.var 19) (.var 13)))) (.br (.cmp .gtr (.var 16) (.var 15)) (.again 34 ⟨[(.var 16)], [(.var 1), (.lit .true), (.lit .true)], [], [], []⟩ tJCheckm32) tJCheckt0) tJCheckt0)) (.br (.cmp .eql (.var 6) (.lit 1)) (.br (.var 1) (.again 34 ⟨[(.var 15)], [(.lit .true), (.lit .false), (.lit .false)], [], [], []⟩ tJCheckm30) (.br (.cmp .eql (.var 6) (.lit 1)) (.loop 26 ⟨[(.var 15)], [], [], [], []⟩ tJCheckm30 tJCheckm37 (.br (.cmp .geq (.var 17) (.nat 6)) (.done (.lf (tLi 63)) tJCheckm37) (.need (.inb 3 (.var 17) (.nat 6)) (.par (.ld .true (.adr 3 (.var 17) 16 0) tJCheckb2 tJCheckm37 tJCheckm38 (.par (.call 31 [(.agg tJCheckb2), (.agg [(tVi 6), (tVi 7), (tVi 8), (tVi 9), (tVi 10)])] tJCheckm38 (.tup [(.true, tJCheckb3), (.true, [(tVi 50), (tVi 51), (tVi 52)])]) tJCheckm39 (.par (.br (.not (.and (.cmp .eql (.var 50) (.var 11)) (.and (.cmp .eql (.var 51) (.var 12)) (.cmp .eql (.var 52) (.var 13))))) (.again 26 ⟨[(.op .add .i64 (.var 17) (.lit 1))], [], [], [], []⟩ tJCheckm2) (.again 34 ⟨[(.var 17)], [(.lit .false), (.lit .false), (.lit .false)], [], [], []⟩ tJCheckm2)) (.br (.not (.and (.cmp .eql (.var 50) (.var 11)) (.and (.cmp .eql (.var 51) (.var 12)) (.cmp .eql (.var 52) (.var 13))))) (.again 26 ⟨[(.op .add .i64 (.var 17) (.lit 1))], [], [], [], []⟩ tJCheckm3) (.again 34 ⟨[(.var 17)], [(.lit .false), (.lit .false), (.lit .false)], [], [], []⟩ tJCheckm3)))) (.par tJCheckt1 tJCheckt2))) (.par (.par (.ld .true (.adr 3 (.var 17) 16 0) tJCheckb2 tJCheckm27 tJCheckm25 tJCheckt1) (.ld .true (.adr 3 (.var 17) 16 0) tJCheckb2 tJCheckm14 tJCheckm10 (.call 31 [(.agg tJCheckb2), (.agg [(tVi 6), (tVi 7), (tVi 8), (tVi 9), (tVi 10)])] tJCheckm10 (.tup [(.true, tJCheckb3), (.true, [(tVi 50), (tVi 51), (tVi 52)])]) tJCheckm11 (.br (.not (.and (.cmp .eql (.var 50) (.var 11)) (.and (.cmp .eql (.var 51) (.var 12)) (.cmp .eql (.var 52) (.var 13))))) (.again 26 ⟨[(.op .add .i64 (.var 17) (.lit 1))], [], [], [], []⟩ tJCheckm2) (.again 34 ⟨[(.var 17)], [(.lit .false), (.lit .false), (.lit .false)], [], [], []⟩ tJCheckm2))))) (.par (.ld .true (.adr 3 (.var 17) 16 0) tJCheckb2 tJCheckm21 tJCheckm19 tJCheckt2) (.ld .true (.adr 3 (.var 17) 16 0) tJCheckb2 tJCheckm15 tJCheckm12 (.call 31 [(.agg tJCheckb2), (.agg [(tVi 6), (tVi 7), (tVi 8), (tVi 9), (tVi 10)])] tJCheckm12 (.tup [(.true, tJCheckb3), (.true, [(tVi 50), (tVi 51), (tVi 52)])]) tJCheckm13 (.br (.not (.and (.cmp .eql (.var 50) (.var 11)) (.and (.cmp .eql (.var 51) (.var 12)) (.cmp .eql (.var 52) (.var 13))))) (.again 26 ⟨[(.op .add .i64 (.var 17) (.lit 1))], [], [], [], []⟩ tJCheckm3) (.again 34 ⟨[(.var 17)], [(.lit .false), (.lit .false), (.lit .false)], [], [], []⟩ tJCheckm3)))))))))) (.done (.lf (tLi 63)) tJCheckm30))) (.br (.cmp .eql (.var 6) (.lit 1)) (.loop 26 ⟨[(.var 15)], [], [], [], []⟩ tJCheckm30 tJCheckm37 (.br (.cmp .geq (.var 17) (.nat 6)) (.done (.lf (tLi 63)) tJCheckm37) (.need (.inb 3 (.var 17) (.nat 6)) (.par (.ld .true (.adr 3 (.var 17) 16 0) tJCheckb2 tJCheckm37 tJCheckm38 (.par (.call 31 [(.agg tJCheckb2), (.agg [(tVi 6), (tVi 7), (tVi 8), (tVi 9), (tVi 10)])] tJCheckm38 (.tup [(.true, tJCheckb3), (.true, [(tVi 50), (tVi 51), (tVi 52)])]) tJCheckm39 (.par (.br (.not (.and (.cmp .eql (.var 50) (.var 11)) (.and (.cmp .eql (.var 51) (.var 12)) (.cmp .eql (.var 52) (.var 13))))) (.again 26 ⟨[(.op .add .i64 (.var 17) (.lit 1))], [], [], [], []⟩ tJCheckm2) (.again 34 ⟨[(.var 17)], [(.var 1), (.lit .false), (.lit .false)], [], [], []⟩ tJCheckm2)) (.br (.not (.and (.cmp .eql (.var 50) (.var 11)) (.and (.cmp .eql (.var 51) (.var 12)) (.cmp .eql (.var 52) (.var 13))))) (.again 26 ⟨[(.op .add .i64 (.var 17) (.lit 1))], [], [], [], []⟩ tJCheckm3) (.again 34 ⟨[(.var 17)], [(.var 1), (.lit .false), (.lit .false)], [], [], []⟩ tJCheckm3)))) (.par tJCheckt5 tJCheckt6))) (.par (.par (.ld .true (.adr 3 (.var 17) 16 0) tJCheckb2 tJCheckm27 tJCheckm25 tJCheckt5) (.ld .true (.adr 3 (.var 17) 16 0) tJCheckb2 tJCheckm14 tJCheckm10 (.call 31 [(.agg tJCheckb2), (.agg [(tVi 6), (tVi 7), (tVi 8), (tVi 9), (tVi 10)])] tJCheckm10 (.tup [(.true, tJCheckb3), (.true, [(tVi 50), (tVi 51), (tVi 52)])]) tJCheckm11 (.br (.not (.and (.cmp .eql (.var 50) (.var 11)) (.and (.cmp .eql (.var 51) (.var 12)) (.cmp .eql (.var 52) (.var 13))))) (.again 26 ⟨[(.op .add .i64 (.var 17) (.lit 1))], [], [], [], []⟩ tJCheckm2) (.again 34 ⟨[(.var 17)], [(.var 1), (.lit .false), (.lit .false)], [], [], []⟩ tJCheckm2))))) (.par (.ld .true (.adr 3 (.var 17) 16 0) tJCheckb2 tJCheckm21 tJCheckm19 tJCheckt6) (.ld .true (.adr 3 (.var 17) 16 0) tJCheckb2 tJCheckm15 tJCheckm12 (.call 31 [(.agg tJCheckb2), (.agg [(tVi 6), (tVi 7), (tVi 8), (tVi 9), (tVi 10)])] tJCheckm12 (.tup [(.true, tJCheckb3), (.true, [(tVi 50), (tVi 51), (tVi 52)])]) tJCheckm13 (.br (.not (.and (.cmp .eql (.var 50) (.var 11)) (.and (.cmp .eql (.var 51) (.var 12)) (.cmp .eql (.var 52) (.var 13))))) (.again 26 ⟨[(.op .add .i64 (.var 17) (.lit 1))], [], [], [], []⟩ tJCheckm3) (.again 34 ⟨[(.var 17)], [(.var 1), (.lit .false), (.lit .false)], [], [], []⟩ tJCheckm3)))))))))) (.done (.lf (tLi 63)) tJCheckm30)))) (.again 7 ⟨[(.op .add .i64 (.var 1) (.lit 1)), (.mx (.var 2) (.var 17))], [(.var 4)], [], [], []⟩ tJCheckm31)))))) (.again 7 ⟨[(.op .add .i64 (.var 1) (.lit 1)), (.var 2)], [(.var 1)], [], [], []⟩ tJCheckm28))))) (.done (.lf (tLi 0)) tJCheckm42)))))) := by kernel_rfl
end Go.Proofs.Ytbedoemdjlollaa

namespace Go.Proofs.Ytbedoemdjlollaa
open Go.Eng
set_option maxRecDepth 100000
set_option maxRecDepth 100000 in
theorem tCopied : (runF ⟨tt, fns, { }⟩ (Try.f9.body.getD .skip) Try.f9.results.toList (entry Try.f9.ntmps [.lf (.sl 0 (.var 0) (.var 1))] [] ⟨0, 0, 0, 2, 1⟩)) =
  (.call 20 [(.lf (tSl 0 0 1))] ⟨[], ⟨0, 0, 0, 2, 1⟩⟩ (.lf (tSl 1 2 3)) ⟨[], ⟨0, 0, 0, 4, 2⟩⟩ (.done (.lf (tSl 1 2 3)) ⟨[], ⟨0, 0, 0, 4, 2⟩⟩)) := by kernel_rfl
end Go.Proofs.Ytbedoemdjlollaa

namespace Go.Eng
open Go.ChangeShapes Go.WideShapes Go.ChangeAt Go.RowKit Go.Syn
set_option linter.unusedVariables false
set_option linter.unusedSimpArgs false
structure Wr where
  sz : Nat
  e : Nat
  a : Option Addr
  n : Nat
  cap : Nat
  P : List Value → Prop
def Wr.hx (r : Wr) : HX := HX.obj (fun k => r.cap ≠ 0 ∧ abk r.a = some k) (fun h => ∃ xs, xs.length = r.n * r.sz ∧ r.P xs ∧ h = HX.rw r.sz r.e r.a r.n r.cap xs)
def wilds (l : List Wr) : HX := HX.all (l.map Wr.hx)
theorem Wr.of {r : Wr} {w : World} {xs : List Value} (h : (HX.rw r.sz r.e r.a r.n r.cap xs).X w) (hl : xs.length = r.n * r.sz) (hP : r.P xs) : r.hx.X w := ⟨_, ⟨xs, hl, hP, rfl⟩, h, fun k hk => hk⟩
theorem Wr.open {r : Wr} {w : World} (h : r.hx.X w) : ∃ xs, xs.length = r.n * r.sz ∧ r.P xs ∧ (HX.rw r.sz r.e r.a r.n r.cap xs).X w := by
  obtain ⟨_, ⟨xs, hl, hP, rfl⟩, hX, _⟩ := h
  exact ⟨xs, hl, hP, hX⟩
theorem wilds_get {l : List Wr} {r : Wr} {w : World} (hr : r ∈ l) (h : (wilds l).X w) : r.hx.X w := h _ (List.mem_map.2 ⟨r, hr, rfl⟩)
theorem wilds_of {l : List Wr} {w : World} (h : ∀ r ∈ l, r.hx.X w) : (wilds l).X w := fun q hq => by
  obtain ⟨r, hr, rfl⟩ := List.mem_map.1 hq
  exact h r hr
theorem wilds_F {l : List Wr} {k : Nat} (h : (wilds l).F k) : ∃ r ∈ l, r.cap ≠ 0 ∧ abk r.a = some k := by
  obtain ⟨q, hq, hk⟩ := h
  obtain ⟨r, hr, rfl⟩ := List.mem_map.1 hq
  exact ⟨r, hr, hk⟩
theorem spl_one {xs : List Value} {p : Nat} {u : Value} (h : p < xs.length) : spl xs p [u] = xs.set p u := by
  unfold spl
  rw [List.set_eq_take_append_cons_drop, if_pos h]
  simp
theorem wild_st {w w' : World} {g p e : Nat} {u : Value} {cur : List Value} (hg : w.heap[g]? = some (.cells cur.toArray e (0, 0))) (hp : p < cur.length) (hg' : w'.heap[g]? = some (.cells (spl cur p [u]).toArray e (0, 0))) (hb : ∀ k, k ≠ g → k < w.heap.size → w'.heap[k]? = w.heap[k]?)
    {r : Wr} (hP : r.e = e → ∀ xs, xs.length = r.n * r.sz → r.P xs → r.P (xs.set p u)) (h : r.hx.X w) : r.hx.X w' := by
  obtain ⟨xs, hl, hPx, hX⟩ := Wr.open h
  by_cases hc : r.cap = 0
  · rcases hX with ⟨_, h2, h3⟩ | ⟨q, _⟩
    · exact Wr.of (.inl ⟨hc, h2, h3⟩) hl hPx
    · exact absurd hc q
  · obtain ⟨g2, cur2, ea, hlt, hg2, hnc, hcm, hcl, htk⟩ := rw_open hX hc
    by_cases hgg : g2 = g
    · subst hgg
      rw [hg] at hg2
      injection hg2 with hg2
      injection hg2 with h1 h2 h3
      have h1 : cur = cur2 := by have := congrArg Array.toList h1; simpa using this
      subst h1
      have hn : r.n * r.sz ≤ cur.length := by rw [hcl]; exact Nat.mul_le_mul_right _ hnc
      have hX2 := rw_shut hc hg' hnc hcm (by rw [spl_len (by simp; omega)]; exact hcl)
      rw [← ea, h2] at hX2
      refine Wr.of hX2 (by rw [List.length_take, spl_len (by simp; omega)]; omega) ?_
      rw [spl_one hp]
      have e2 : (cur.set p u).take (r.n * r.sz) = xs.set p u := by rw [List.take_set, htk]
      rw [e2]
      exact hP h2.symm xs hl hPx
    · exact Wr.of ((HX.rw r.sz r.e r.a r.n r.cap xs).loc w w' hX fun k hk => by
        obtain ⟨_, hk⟩ := hk
        rw [ea] at hk
        have : g2 = k := by injection hk
        subst this
        exact hb _ hgg hlt) hl hPx
section
variable {C : Cfg} {ρ : Env} {pre : List Nat} {rest : HX} {L : Stack} {m m' : Mem} {ty : Nat} {ps : List (Nat × SV)} {t : Tree}
theorem node_wst {et : Nat} {xa xv : Operand} (l : List Wr) (r : Wr) (hr : r ∈ l) (i off : Nat) (u : Value) (hsize : (C.P.info? et).map (·.size) = some 1) (hxa : ∀ ids, envOf ρ ids ps xa = .pointer (some (((r.a.getD ⟨0, 0, none⟩).add (i * r.sz)).add off))) (hxv : ∀ ids, envOf ρ ids ps xv = u) (hv : u.cells = #[u]) (h1 : u.oneCell' = true)
    (hio : i * r.sz + off < r.n * r.sz) (hP : ∀ q ∈ l, q.e = r.e → ∀ xs, xs.length = q.n * q.sz → q.P xs → q.P (xs.set (i * r.sz + off) u)) (hdis : ∀ k, r.cap ≠ 0 → abk r.a = some k → ¬ rest.F k) (hM : ∀ k, r.cap ≠ 0 → abk r.a = some k → C.W.heap.size ≤ k ∨ C.M k) (hhp : m'.hp = m.hp) (hfit : hpFits m.c m.hp.length m.hp = true) (hc : ρ.cnt = m'.c)
    (h : t.holds C ρ pre (rest.and (wilds l)) L) : (Tree.gen (.store et xa xv) ty ps m none m' t).holds C ρ pre (rest.and (wilds l)) L := by
  intro ids w hp hf
  unfold GenRun
  obtain ⟨xs, hl, hPx, hrow⟩ := Wr.open (wilds_get hr hf.x.2)
  have hle := rw_le hrow
  have hn : r.n ≠ 0 := fun q => by rw [q] at hio; omega
  have hc0 : r.cap ≠ 0 := by omega
  obtain ⟨g, cur, ea, hlt, hg, hnc, hcm, hcl, htk⟩ := rw_open hrow hc0
  have hmul : r.n * r.sz ≤ r.cap * r.sz := Nat.mul_le_mul_right _ hnc
  obtain ⟨w', hrun, hg', hgr⟩ := run_store_blk (P := C.P) (o := i * r.sz + off) (vs := [u]) hg (by simp; omega) (fun q hq => by simp only [List.mem_singleton] at hq; subst hq; exact h1)
  have hadr : ((r.a.getD ⟨0, 0, none⟩).add (i * r.sz)).add off = ⟨g, i * r.sz + off, none⟩ := by
    rw [ea, Option.getD_some, Go.WideShapes.add_plain, Go.WideShapes.add_plain, Nat.zero_add]
  rw [hadr] at hxa
  have hab : abk r.a = some g := by rw [ea]; rfl
  obtain ⟨i0, hi, hi2⟩ := Option.map_eq_some_iff.1 hsize
  have hrun2 : (Instr.storeAt et (.pointer (some ⟨g, i * r.sz + off, none⟩)) u).run C.P w = .ok () w' := by
    simp [Instr.storeAt, Instr.sureAddr, storeVar, sizeOf, typeInfo, hi, hi2, hv, hrun]
  simp only [execOp, hxa, hxv, Sem.run_bind, Sem.run_pure, Result.andThen_ok, hrun2]
  have hX : (rest.and (wilds l)).X w' := ⟨rest.loc w w' hf.x.1 fun k hk => hgr.block k (hf.sep k (.inl hk)).1 (fun q => hdis g hc0 hab (by cases q; exact hk)), wilds_of fun q hq => wild_st hg (by omega) hg' (fun k hk hlt => hgr.block k hlt (fun z => hk (by cases z; rfl))) (hP q hq) (wilds_get hq hf.x.2)⟩
  refine ⟨Vals.nil, ids, rest.and (wilds l), rfl, List.prefix_refl _, hf.turn hgr (fun b hb => by cases hb; exact ⟨.inr ⟨_, List.mem_map.2 ⟨r, hr, rfl⟩, hc0, hab⟩, hM _ hc0 hab⟩) hX (fun k hk => .inl hk) hhp hfit (by rw [Env.add_nil]; exact hc) oneNil, ?_⟩
  rw [Env.add_nil]; exact holds_pre t hp h
end
end Go.Eng
