/- Sessions: Ask. -/
import Derived.Test.YthgkgllllomeeaaSeD
namespace Go.Proofs.Ythgkgllllomeeaa
open Go.ChangeShapes Go.WideShapes Go.ChangeAt Go.RowKit Go.Syn Go.Eng
set_option linter.unusedVariables false
set_option linter.unusedSimpArgs false
set_option maxRecDepth 100000
def askRet (k re im : Int) (d : Bool) (v : Value) : Value := .tuple #[v, .agg #[.int .i64 k, .int .i64 re, .int .i64 im], .bool d]
def cmdC (sess seq ack o1 o2 o3 o4 o5 : Int) : Value := .agg #[.int .i64 sess, .int .i64 seq, .int .i64 ack, .int .i64 o1, .int .i64 o2, .int .i64 o3, .int .i64 o4, .int .i64 o5]
/-- Tables that may be asked. -/
structure TOk (t : List SsD) : Prop where
  len : t.length ≤ 1000
  kept : ∀ s ∈ t, s.kept.length ≤ 1000
  nos : Rise (nosT t)
  seqs : ∀ s ∈ t, Rise (seqsK s.kept)
theorem se_key {l : List SE} {n o : Nat} {v : Value} (i : Nat) (e : SE) (h : l[i]? = some e) (hv : e.cells[o]? = some v) {a : Option Addr} {w : World} (H : Cells w a (secells l)) : CellsAt w (.pointer (some (((a.getD ⟨0, 0, none⟩).add (i * 3)).add o))) [v] (fun _ => False) :=
  (flat_part se_len H h (o := o) [v] (fun j u hj => by cases j with | zero => rw [List.getElem?_cons_zero] at hj; cases hj; exact hv | succ j => simp at hj) (by simp)).2 _ (fun q => q)
theorem tb_fin {P : Program} {W : World} {m : Mem} {ρ : Env} {ids : List Nat} {w2 : World} {V : Value → Value} {a : Option Addr} {c : Nat} {es : List SE} {t : List SsD} {v : SV} {R : Ending → World → Prop} (hf : Facts ⟨P, W, fun _ => False, R⟩ m ρ ids (tabR a c es) w2) (hm : es.map SE.s = t) (hdj : Dj a c es) (hnew : ∀ k, (tabR a c es).F k → W.heap.size ≤ k) (hv : v.den ρ ids = V (.slice a es.length c)) : TbNew W V t (.returned (v.den ρ ids)) w2 :=
  ⟨a, c, es, hm, by rw [hv, ← hm, List.length_map], hdj, hf.x, hnew, hf.chg.below⟩
theorem tb_fin0 {P : Program} {W : World} {m : Mem} {ρ : Env} {ids : List Nat} {w2 : World} {V : Value → Value} {a : Option Addr} {c : Nat} {es : List SE} {t : List SsD} {v : SV} {R : Ending → World → Prop} (hf : Facts ⟨P, W, fun _ => False, R⟩ m ρ ids (HX.nil.and (tabR a c es)) w2) (hm : es.map SE.s = t) (hdj : Dj a c es) (hnew : ∀ k, (tabR a c es).F k → W.heap.size ≤ k) (hv : v.den ρ ids = V (.slice a es.length c)) : TbNew W V t (.returned (v.den ρ ids)) w2 :=
  ⟨a, c, es, hm, by rw [hv, ← hm, List.length_map], hdj, hf.x.2, hnew, hf.chg.below⟩
def AskI (W : World) (t1 : List SsD) (bad : Prop) (vs : Vals) (hx : HX) : Prop := ¬ bad ∧ ∃ a2 c2 es2, es2.map SE.s = t1 ∧ Dj a2 c2 es2 ∧ Sm a2 es2 ∧ (∀ k, (tabR a2 c2 es2).F k → W.heap.size ≤ k) ∧ vs = ⟨[], [], [], [es2.length, c2], [a2]⟩ ∧ hx = tabR a2 c2 es2
set_option maxHeartbeats 4000000 in
theorem task_any (a : Option Addr) (cap : Nat) (es : List SE) (sess seq ack o1 o2 o3 o4 o5 : Int) (w : World) (H : TbAt w a es) (hok : TOk (es.map SE.s)) :
    Calls Try.prog 8 #[.slice a es.length cap, cmdC sess seq ack o1 o2 o3 o4 o5] w (TbNew w (askRet (askV (es.map SE.s) sess seq ack).k (askV (es.map SE.s) sess seq ack).re (askV (es.map SE.s) sess seq ack).im (askV (es.map SE.s) sess seq ack).d) (askV (es.map SE.s) sess seq ack).t) := by
  refine calls_at (tab_ok _) Try.func8 rfl tTAskJ (ρ := ⟨[sess, seq, ack, o1, o2, o3, o4, o5], [], [], [es.length, cap], [a]⟩) (ids := []) (hx := HX.nil) rfl (Facts.initP rfl oneNil) ?_
  obtain ⟨t, et⟩ : ∃ t, t = es.map SE.s := ⟨_, rfl⟩
  rw [← et] at hok ⊢
  obtain ⟨R, eR⟩ : ∃ R, R = askV t sess seq ack := ⟨_, rfl⟩
  rw [← eR]
  have htl : t.length = es.length := by rw [et, List.length_map]
  have hkk : ∀ e ∈ es, e.s.kept.length ≤ 1000000 := fun e he => Nat.le_trans (hok.kept e.s (by rw [et]; exact List.mem_map_of_mem he)) (by decide)
  refine node_tb (V := id) (tb := t) (fun _ => #[.slice a es.length cap]) (fun a' c' => ⟨[], [], [], [t.length, c'], [a']⟩) (by intros; kernel_rfl) (fun ids w2 hp hf => by
    rw [et]; exact tclone_any a cap es w2 (H.keep (fun k hk => hf.chg.block k hk (fun q => q))) (by have := hok.len; omega) hkk) (by intros; kernel_rfl) (by kernel_rfl) (by kernel_rfl) (by intros; kernel_rfl) (fun _ _ => oneNil) ?_
  intro a1 c1 es1 hm1 hdj1 hsm1 hnew1
  have hl1 : es1.length = t.length := by rw [← hm1, List.length_map]
  have hn1 : (es1.map fun e => e.s.no) = nosT t := by rw [← hm1]; unfold nosT; rw [List.map_map]; rfl
  have hlen := hok.len
  obtain ⟨i, ei⟩ : ∃ i, i = posI (nosT t) sess := ⟨_, rfl⟩
  have hle : i ≤ t.length := by
    have := pos_le (nosT t) sess
    rw [ei]; unfold nosT at this ⊢
    rwa [List.length_map] at this
  refine holds_env (ρ' := ⟨[sess, seq, ack, o1, o2, o3, o4, o5], [], [], [es.length, cap, es1.length, c1], [a, a1]⟩) (by rw [hl1]; kernel_rfl) ?_
  refine node_P ⟨[(i : Int)], [hitI (nosT t) sess], [], [], []⟩ #[.slice a1 es1.length c1, .int .i64 sess, .func (.func 20) #[] #[]] (.tuple #[.int .i64 (i : Int), .bool (hitI (nosT t) sess)]) (by intros; kernel_rfl) (by intros; kernel_rfl) (by intros; kernel_rfl) (by intros; kernel_rfl) (by intros; kernel_rfl) oneNil (fun ids w2 hp hf => by
    have := bst_any a1 c1 es1 sess w2 (rw_cells hf.x.2.2) (by rw [hn1]; exact hok.nos) (by omega)
    rw [hn1, ← ei] at this; exact this) ?_
  refine ⟨AskI w (tabS t sess) (hitI (nosT t) sess = false ∧ 16 ≤ t.length), ?_, ?_⟩
  · rcases Bool.eq_false_or_eq_true (hitI (nosT t) sess) with hh | hh
    · refine br_F (!(hitI (nosT t) sess)) (by kernel_rfl) (by rw [hh]; rfl) ?_
      refine again_V ⟨[], [], [], [es1.length, c1], [a1]⟩ rfl (by intros; kernel_rfl) (tabR a1 c1 es1) (fun w2 ids hf => ⟨hf.x.2, fun j hj => hf.sep j (.inr hj)⟩) ⟨fun q => Bool.noConfusion (hh.symm.trans q.1), a1, c1, es1, ?_, hdj1, hsm1, fun k hk => (hnew1 k hk).1, rfl, rfl⟩
      rw [hm1]; unfold tabS; rw [if_pos hh]
    · refine br_T (!(hitI (nosT t) sess)) (by kernel_rfl) (by rw [hh]; rfl) ?_
      by_cases hfull : 16 ≤ t.length
      · refine br_T (decide ((es1.length : Int) ≥ 16)) (by kernel_rfl) (decide_eq_true (by omega)) ?_
        have hR : R = ⟨t, 5, 0, 0, true⟩ := by rw [eR]; unfold askV; rw [if_pos ⟨hh, hfull⟩]
        rw [hR]
        intro ids w2 hp hf
        exact tb_fin0 hf hm1 hdj1 (fun k hk => (hnew1 k hk).1) (by kernel_rfl)
      · refine br_F (decide ((es1.length : Int) ≥ 16)) (by kernel_rfl) (decide_eq_false (by omega)) ?_
        refine holds_eq (show _ = (HX.nil.and (ksR es1)).and (HX.rw 3 42 a1 es1.length c1 (secells es1)) from (HX.and_assoc _ _ _).symm) ?_
        refine node_rwm (V := id) (n' := es1.length + 1) (zs := (secells es1).take (i * 3) ++ [.int .i64 sess, .int .i64 0, .slice none 0 0] ++ (secells es1).drop (i * 3)) (fun ids => #[.slice a1 es1.length c1, .int .i64 (i : Int), .slice (some ⟨idAt ids 2, 0, none⟩) 1 1]) (fun a' c' => ⟨[], [], [], [es1.length + 1, c'], [a']⟩) (by intros; kernel_rfl) (fun ids w2 hp hf => ?_) (fun q h1 h2 hF => ?_) (fun q h1 h2 => .inl (hnew1 q (.inr ⟨h1, h2⟩)).1) (by intros; kernel_rfl) (by kernel_rfl) (by kernel_rfl) (by intros; kernel_rfl) (fun _ _ => oneNil) ?_
        · have hlt2 : 2 < ids.length := by rw [hf.len]; decide
          exact inst_any a1 c1 es1.length i (secells es1) sess 0 (idAt ids 2) w2 hf.x.2 (hf.blkAt 2 rfl) (by omega) (by omega) (se_one es1) (fun k h1 h2 q => (hf.sep k (.inr ⟨h1, h2⟩)).2 (q ▸ idAt_mem hlt2))
        · rcases hF with hF | hF
          · exact hF
          · exact hdj1.row q ⟨h1, h2⟩ hF
        intro a2 c2 hsm2 hdis2 hwh2
        have hi1 : i ≤ es1.length := by omega
        have hz : (secells es1).take (i * 3) ++ [Value.int .i64 sess, .int .i64 0, .slice none 0 0] ++ (secells es1).drop (i * 3) = secells (insAt es1 i (seNew sess)) := (insAt_flat se_len es1 i (seNew sess)).symm
        have hx2 : HX.nil.and (tabR a2 c2 (insAt es1 i (seNew sess))) = (HX.nil.and (ksR es1)).and (HX.rw 3 42 a2 (es1.length + 1) c2 (secells (insAt es1 i (seNew sess)))) := by
          unfold tabR tRow
          rw [ksR_ins, insAt_len _ hi1, HX.and_assoc]
        refine holds_eq (show _ = HX.nil.and (tabR a2 c2 (insAt es1 i (seNew sess))) from by rw [hz, hx2]) ?_
        refine again_V ⟨[], [], [], [(insAt es1 i (seNew sess)).length, c2], [a2]⟩ rfl (fun ids => Eq.trans (b := ⟨[], [], [], [es1.length + 1, c2], [a2]⟩) (by kernel_rfl) (by rw [insAt_len _ hi1])) (tabR a2 c2 (insAt es1 i (seNew sess))) (fun w2 ids hf => ⟨hf.x.2, fun j hj => hf.sep j (.inr hj)⟩) ⟨fun q => hfull q.2, a2, c2, insAt es1 i (seNew sess), ?_, hdj1.ins hi1 (fun k h1 h2 q => hdis2 k h1 h2 (.inr q)), ⟨fun _ => hsm2 (by simp), fun x hx hk => (insAt_mem.1 hx).elim (fun q => hsm1.each x q hk) (fun q => absurd (by rw [q]; rfl) hk)⟩, ?_, rfl, rfl⟩
        · rw [insAt_map, hm1]; unfold tabS; rw [if_neg (by rw [hh]; decide), ei]; rfl
        · rintro k (hk | hk)
          · rw [ksR_ins] at hk
            exact (hnew1 k (.inl hk)).1
          · rcases hwh2 k hk.1 hk.2 with q | q
            · exact (hnew1 k (.inr q)).1
            · exact q.1
  rintro vs hx' hcnt ⟨hgood, a2, c2, es2, hm2, hdj2, hsm2, hnew2, rfl, rfl⟩
  refine holds_env (ρ' := ⟨[sess, seq, ack, o1, o2, o3, o4, o5, (i : Int)], [hitI (nosT t) sess], [], [es.length, cap, es1.length, c1, es2.length, c2], [a, a1, a2]⟩) (by kernel_rfl) ?_
  obtain ⟨s, hs, hsno, hs1, hs2⟩ := tabS_at t sess
  rw [← ei] at hs hs1
  have hR : R = askS ((tabS t sess).set i (updS ack s)) (updS ack s) seq := by
    rw [eR]; unfold askV; rw [if_neg hgood, ← ei, hs]
  obtain ⟨e, he, hes⟩ : ∃ e, es2[i]? = some e ∧ e.s = s := by
    have h1 : (es2.map SE.s)[i]? = some s := by rw [hm2]; exact hs
    rw [List.getElem?_map] at h1
    cases h4 : es2[i]? with
    | none => rw [h4] at h1; cases h1
    | some x => rw [h4] at h1; simp only [Option.map_some, Option.some.injEq] at h1; exact ⟨x, rfl, h1⟩
  have hi2 : i < es2.length := (List.getElem?_eq_some_iff.1 he).1
  have hl2 : es2.length ≤ 1001 := by
    have h1 : es2.length = (tabS t sess).length := by rw [← hm2, List.length_map]
    rw [h1]; unfold tabS
    split
    · omega
    · rw [insAt_len _ (by rw [← ei]; exact hle)]; omega
  have hsok : s.kept.length ≤ 1000 ∧ Rise (seqsK s.kept) := by
    rcases Bool.eq_false_or_eq_true (hitI (nosT t) sess) with hh | hh
    · have := List.mem_of_getElem? (hs1 hh)
      exact ⟨hok.kept s this, hok.seqs s this⟩
    · rw [hs2 hh]; exact ⟨Nat.zero_le _, fun i j x y _ h => by simp [seqsK] at h⟩
  obtain ⟨A, eA⟩ : ∃ A, A = max e.s.ack ack := ⟨_, rfl⟩
  have hwe : es2 ≠ [] := fun q => by rw [q] at hi2; simp at hi2
  obtain ⟨e1, ee1⟩ : ∃ e1 : SE, e1 = ⟨⟨e.s.no, A, e.s.kept⟩, e.a, e.c⟩ := ⟨_, rfl⟩
  obtain ⟨l', el'⟩ : ∃ l', l' = e.s.kept.filter (live A) := ⟨_, rfl⟩
  obtain ⟨e3, ee3⟩ : ∃ e3 : SE, e3 = ⟨⟨e.s.no, A, l'⟩, e.a, e.c⟩ := ⟨_, rfl⟩
  have hu : updS ack s = ⟨e.s.no, A, l'⟩ := by rw [el', eA, ← hes]; rfl
  rw [hu] at hR
  have hll : l'.length ≤ 1000 := by rw [el']; exact Nat.le_trans (List.length_filter_le _ _) (by rw [hes]; exact hsok.1)
  have hlr : Rise (seqsK l') := by rw [el', hes]; exact rise_filter hsok.2 _
  have he1 : (es2.set i e1)[i]? = some e1 := List.getElem?_set_self hi2
  have he3 : (es2.set i e3)[i]? = some e3 := List.getElem?_set_self hi2
  have hm3 : (es2.set i e3).map SE.s = (tabS t sess).set i ⟨e.s.no, A, l'⟩ := by rw [List.map_set, hm2, ee3]
  have hdj3 : Dj a2 c2 (es2.set i e3) := hdj2.set he (fun k hk => hdj2.one he k (by rw [ee3] at hk; exact hk))
  have hF3 : ∀ k, (tabR a2 c2 (es2.set i e3)).F k → w.heap.size ≤ k := by
    rintro k (hk | hk)
    · rw [ksR_set he] at hk
      rcases hk with hk | hk
      · exact hnew2 k (.inl (by rw [ksR_split he]; exact .inl hk))
      · exact hnew2 k (.inl (by rw [ksR_split he]; exact .inr (by rw [ee3] at hk; exact hk)))
    · exact hnew2 k (.inr hk)
  have hi0 : (0 : Int) ≤ (i : Int) ∧ (i : Int) < (es2.length : Int) := by omega
  refine need_k (a2.isSome = true ∧ (0 : Int) ≤ i ∧ (i : Int) < es2.length) (by kernel_rfl) ⟨hsm2.tab hwe, hi0⟩ ?_
  refine node_ldk ⟨[e.s.ack], [], [], [], []⟩ (fun _ => .pointer (some (((a2.getD ⟨0, 0, none⟩).add (i * 3)).add 1))) [.int .i64 e.s.ack] (by intros; kernel_rfl) (by intros; kernel_rfl) (fun ids w2 hp hf => se_key i e he (n := 0) rfl (rw_cells hf.x.2)) (by kernel_rfl) oneNil ?_
  refine holds_eq (show _ = (ksR es2).and (HX.rw 3 42 a2 es2.length c2 (secells es2)) from rfl) ?_
  refine node_stores (sz := 3) a2 es2.length c2 (secells es2) [.int .i64 A] i 1 (.int .i64 A) (by kernel_rfl) (by intros; kernel_rfl) (fun ids => Eq.trans (b := .int .i64 (max e.s.ack ack)) (by kernel_rfl) (by rw [eA])) rfl (by simp [Value.oneCell']) (by simp; omega) (by simp) (fun q h1 h2 hF => hdj2.row q ⟨h1, h2⟩ hF) (fun q h1 h2 => .inl (hnew2 q (.inr ⟨h1, h2⟩))) (by kernel_rfl) (by kernel_rfl) (by kernel_rfl) ?_
  have hst1 : spl (secells es2) (i * 3 + 1) [.int .i64 A] = secells (es2.set i e1) := flat_spl se_len he (e' := e1) (o := 1) (us := [.int .i64 A]) (by simp) (by rw [ee1]; rfl)
  rw [hst1]
  refine node_ldk ⟨[], [], [], [e.s.kept.length, e.c], [e.a]⟩ (fun _ => .pointer (some (((a2.getD ⟨0, 0, none⟩).add (i * 3)).add 2))) [.slice e.a e.s.kept.length e.c] (by intros; kernel_rfl) (by intros; kernel_rfl) (fun ids w2 hp hf => se_key i e1 he1 (n := 0) (by rw [ee1]; rfl) (rw_cells hf.x.2)) (by kernel_rfl) oneNil ?_
  refine holds_eq (show _ = ((ksR (es2.eraseIdx i)).and (HX.rw 3 42 a2 es2.length c2 (secells (es2.set i e1)))).and (HX.rw 4 48 e.a e.s.kept.length e.c (kcells e.s.kept)) from by rw [ksR_split he, HX.and_right_comm]; rfl) ?_
  have hdE := hdj2.one he
  refine node_del (bn := 2) (pc := pSe a2 i) l' (fun ids => #[.slice e.a e.s.kept.length e.c, fAsk (idAt ids 2)]) (by intros; kernel_rfl) rfl (by intros; kernel_rfl) (fun ids w2 hp hf => ?_) (fun q h1 h2 hF => ?_) (fun q h1 h2 => .inl (hnew2 q (.inl ⟨e, List.mem_of_getElem? he, h1, h2⟩))) (by intros; kernel_rfl) (by kernel_rfl) (by kernel_rfl) (by kernel_rfl) ?_
  · have hlt2 : 2 < ids.length := by rw [hf.len]; decide
    have hc := rw_cl hf.x.1.2
    have := delk_any e.a e.c e.s.kept (idAt ids 2) a2 (es2.set i e1) i e1 w2 hf.x.2 (by rw [hes]; have := hsok.1; omega) (hf.blkAt 2 rfl) (rw_cells hf.x.1.2) he1 (fun q => ?_) (fun k h1 h2 => ⟨fun q => (hf.sep k (.inr ⟨h1, h2⟩)).2 (q ▸ idAt_mem hlt2), fun q => (hdE k ⟨h1, h2⟩).2 (hc.2 k q)⟩)
    · rw [show e1.s.ack = A by rw [ee1], ← el'] at this
      exact this
    · have hne : secells (es2.set i e1) ≠ [] := sec_ne (fun z => by rw [z] at he1; simp at he1)
      exact (hf.sep (blk a2) (.inl (.inr (hc.2 _ ⟨hne, rfl⟩)))).2 (q ▸ idAt_mem hlt2)
  · rcases hF with hF | hF
    · exact (hdE q ⟨h1, h2⟩).1 hF
    · exact (hdE q ⟨h1, h2⟩).2 hF
  refine holds_eq (show _ = ((ksR (es2.eraseIdx i)).and (HX.rw 4 48 e.a l'.length e.c (kcells l'))).and (HX.rw 3 42 a2 es2.length c2 (secells (es2.set i e1))) from HX.and_right_comm _ _ _) ?_
  refine node_stores (sz := 3) a2 es2.length c2 (secells (es2.set i e1)) [.slice e.a l'.length e.c] i 2 (.slice e.a l'.length e.c) (by kernel_rfl) (by intros; kernel_rfl) (by intros; kernel_rfl) rfl (by simp [Value.oneCell']) (by simp; omega) (by simp) (fun q h1 h2 hF => ?_) (fun q h1 h2 => .inl (hnew2 q (.inr ⟨h1, h2⟩))) (by kernel_rfl) (by kernel_rfl) (by kernel_rfl) ?_
  · rcases hF with hF | hF
    · exact hdj2.row q ⟨h1, h2⟩ (by rw [ksR_split he]; exact .inl hF)
    · exact hdj2.row q ⟨h1, h2⟩ (by rw [ksR_split he]; exact .inr hF)
  have hst3 : spl (secells (es2.set i e1)) (i * 3 + 2) [.slice e.a l'.length e.c] = secells (es2.set i e3) := by
    have := flat_spl se_len he1 (e' := e3) (o := 2) (us := [.slice e.a l'.length e.c]) (by simp) (by rw [ee1, ee3]; rfl)
    rw [List.set_set] at this; exact this
  rw [hst3]
  refine holds_eq (show _ = tabR a2 c2 (es2.set i e3) from by unfold tabR tRow; rw [ksR_set he, List.length_set, ee3]; rfl) ?_
  have hl3 : (es2.set i e3).length = es2.length := List.length_set ..
  refine node_ldk ⟨[A], [], [], [], []⟩ (fun _ => .pointer (some (((a2.getD ⟨0, 0, none⟩).add (i * 3)).add 1))) [.int .i64 A] (by intros; kernel_rfl) (by intros; kernel_rfl) (fun ids w2 hp hf => se_key i e3 he3 (n := 0) (by rw [ee3]; rfl) (rw_cells hf.x.2)) (by kernel_rfl) oneNil ?_
  rw [hR]
  unfold askS
  by_cases hstale : seq ≤ A
  · refine br_T (decide (seq ≤ A)) (by kernel_rfl) (decide_eq_true hstale) ?_
    rw [if_pos hstale]
    intro ids w2 hp hf
    exact tb_fin hf hm3 hdj3 hF3 (by rw [hl3]; kernel_rfl)
  refine br_F (decide (seq ≤ A)) (by kernel_rfl) (decide_eq_false hstale) ?_
  rw [if_neg hstale]
  have ldk2 : ∀ {m m' : Mem} {n : Nat} {o : Nat} {t : Tree} {L : Stack} {pre : List Nat} {R : Ending → World → Prop} {ρ : Env} {l : LV} {cs : List LV}, (∀ ids, l.den ρ ids = .pointer (some (((a2.getD ⟨0, 0, none⟩).add (i * 3)).add 2))) → (∀ ids, cellsDen (ρ.add ⟨[], [], [], [l'.length, e.c], [e.a]⟩) ids cs = [.slice e.a l'.length e.c]) → (ρ.add ⟨[], [], [], [l'.length, e.c], [e.a]⟩).cnt = m'.c → t.holds ⟨Try.prog, w, fun _ => False, R⟩ (ρ.add ⟨[], [], [], [l'.length, e.c], [e.a]⟩) pre (tabR a2 c2 (es2.set i e3)) L → (Tree.ld true l cs m m' t).holds ⟨Try.prog, w, fun _ => False, R⟩ ρ pre (tabR a2 c2 (es2.set i e3)) L := fun h1 h2 h3 h4 =>
    node_ldk ⟨[], [], [], [l'.length, e.c], [e.a]⟩ (fun _ => .pointer (some (((a2.getD ⟨0, 0, none⟩).add (i * 3)).add 2))) [.slice e.a l'.length e.c] h1 h2 (fun ids w2 hp hf => se_key i e3 he3 (n := 0) (by rw [ee3]; rfl) (rw_cells hf.x.2)) h3 oneNil h4
  refine ldk2 (n := 0) (o := 0) (by intros; kernel_rfl) (by intros; kernel_rfl) (by kernel_rfl) ?_
  have hkc : ∀ {m : Mem} {ρ : Env} {ids : List Nat} {w2 : World} {R : Ending → World → Prop}, Facts ⟨Try.prog, w, fun _ => False, R⟩ m ρ ids (tabR a2 c2 (es2.set i e3)) w2 → Cells w2 e.a (kcells l') := fun hf => by
    have := rw_cells (hf.x.1 e3 (List.mem_of_getElem? he3))
    rw [ee3] at this; exact this
  have hq : (l'.map fun e => e.seq) = seqsK l' := rfl
  obtain ⟨j, ej⟩ : ∃ j, j = posI (seqsK l') seq := ⟨_, rfl⟩
  refine node_P ⟨[(j : Int)], [hitI (seqsK l') seq], [], [], []⟩ #[.slice e.a l'.length e.c, .int .i64 seq, .func (.func 25) #[] #[]] (.tuple #[.int .i64 (j : Int), .bool (hitI (seqsK l') seq)]) (by intros; kernel_rfl) (by intros; kernel_rfl) (by intros; kernel_rfl) (by intros; kernel_rfl) (by intros; kernel_rfl) oneNil (fun ids w2 hp hf => by
    have := bsk_any e.a e.c l' seq w2 (hkc hf) hlr (by omega)
    rw [hq, ← ej] at this; exact this) ?_
  rcases Bool.eq_false_or_eq_true (hitI (seqsK l') seq) with hh | hh
  · refine br_T (hitI (seqsK l') seq) (by kernel_rfl) hh ?_
    have h1 := hit_iff.1 hh
    have h3 : (l'.map KpD.seq)[j]? = some seq := by rw [ej]; exact h1
    rw [List.getElem?_map] at h3
    cases h4 : l'[j]? with
    | none => rw [h4] at h3; cases h3
    | some k =>
    rw [if_pos hh]
    dsimp only
    rw [← ej, h4]
    dsimp only
    have hjl : j < l'.length := (List.getElem?_eq_some_iff.1 h4).1
    refine ldk2 (n := 0) (o := 0) (by intros; kernel_rfl) (by intros; kernel_rfl) (by kernel_rfl) ?_
    have hke : e.s.kept ≠ [] := fun q => by rw [el', q] at hjl; simp at hjl
    refine need_k (e.a.isSome = true ∧ (0 : Int) ≤ j ∧ (j : Int) < l'.length) (by kernel_rfl) ⟨hsm2.each e (List.mem_of_getElem? he) hke, by omega, by omega⟩ ?_
    refine node_ldk ⟨[k.kind, k.re, k.im], [], [], [], []⟩ (fun _ => .pointer (some (((e.a.getD ⟨0, 0, none⟩).add (j * 4)).add 1))) [.int .i64 k.kind, .int .i64 k.re, .int .i64 k.im] (by intros; kernel_rfl) (by intros; kernel_rfl) (fun ids w2 hp hf => (flat_part kp_len (hkc hf) h4 (o := 1) [.int .i64 k.kind, .int .i64 k.re, .int .i64 k.im] (fun j u hj => by
      unfold KpD.cells
      rw [Nat.add_comm, List.getElem?_cons_succ]; exact hj) (by simp)).2 _ (fun q => q)) (by kernel_rfl) oneNil ?_
    intro ids w2 hp hf
    exact tb_fin hf hm3 hdj3 hF3 (by rw [hl3]; kernel_rfl)
  · refine br_F (hitI (seqsK l') seq) (by kernel_rfl) hh ?_
    rw [if_neg (by rw [hh]; decide)]
    refine ldk2 (n := 0) (o := 0) (by intros; kernel_rfl) (by intros; kernel_rfl) (by kernel_rfl) ?_
    by_cases h8 : 8 ≤ l'.length
    · refine br_T (decide ((l'.length : Int) ≥ 8)) (by kernel_rfl) (decide_eq_true (by omega)) ?_
      rw [if_pos h8]
      intro ids w2 hp hf
      exact tb_fin hf hm3 hdj3 hF3 (by rw [hl3]; kernel_rfl)
    · refine br_F (decide ((l'.length : Int) ≥ 8)) (by kernel_rfl) (decide_eq_false (by omega)) ?_
      rw [if_neg h8]
      intro ids w2 hp hf
      exact tb_fin hf hm3 hdj3 hF3 (by rw [hl3]; kernel_rfl)
end Go.Proofs.Ythgkgllllomeeaa
