/- Part 22 of the texts of a proof about the given program: what the statement's proof needs of them. -/
import Derived.Test.YtfjiolgdcphjhaaKExecutorCodes21
namespace Go.Proofs.Ytfjiolgdcphjhaa
open Go.ChangeShapes Go.WideShapes Go.ChangeAt Go.RowKit Go.Syn Go.Eng
set_option linter.unusedVariables false
set_option linter.unusedSimpArgs false
set_option maxRecDepth 100000
structure OkN (bs : List Int) (n : Nat) : Prop where
  good : ∀ j, j ≤ n → (plD bs j).2 = 0
  some : ∀ j, j < n → (plD bs j).1 < bs.length
  done : bs.length ≤ (plD bs n).1
def BadN (bs : List Int) : Prop := ∃ n, (∀ j, j ≤ n → (plD bs j).1 < bs.length) ∧ (plD bs (n + 1)).2 ≠ 0
theorem plD_bad {bs : List Int} (hb : Byt bs) {j : Nat} (h : (plD bs (j + 1)).2 = 0) : (plD bs j).2 = 0 := (readN_ok (l := bs.drop (plD bs j).1) (fun b q => hb b (List.mem_of_mem_drop q)) (bad := (plD bs j).2) h).1
theorem plD_good {bs : List Int} (hb : Byt bs) : ∀ (k j : Nat), (plD bs (j + k)).2 = 0 → (plD bs j).2 = 0
  | 0, _, h => h
  | k + 1, j, h => plD_good hb k j (plD_bad hb h)
theorem plD_step {bs : List Int} (hb : Byt bs) {j : Nat} (h : (plD bs (j + 1)).2 = 0) : (plD bs j).1 < (plD bs (j + 1)).1 := by
  have h1 := (readN_ok (l := bs.drop (plD bs j).1) (fun b q => hb b (List.mem_of_mem_drop q)) (bad := (plD bs j).2) h).2.1
  have hle := (rds bs hb).le j
  have hle2 := (rds bs hb).le (j + 1)
  have hd : bs.drop (plD bs (j + 1)).1 = (readN (bs.drop (plD bs j).1) (plD bs j).2).1 := ixN_drop hle _
  rw [← hd] at h1
  have h2 := congrArg List.length h1
  rw [List.length_append, List.length_drop, List.length_drop] at h2
  have h3 : 0 < (numB (readN (bs.drop (plD bs j).1) (plD bs j).2).2.2).length := Nat.succ_pos _
  omega
theorem plD_mono {bs : List Int} (hb : Byt bs) : ∀ (k j : Nat), (plD bs (j + k)).2 = 0 → (plD bs j).1 + k ≤ (plD bs (j + k)).1
  | 0, _, _ => Nat.le_refl _
  | k + 1, j, h => by
    have h1 := plD_mono hb k j (plD_bad hb h)
    have h2 := plD_step hb (j := j + k) h
    show (plD bs j).1 + (k + 1) ≤ (plD bs (j + k + 1)).1
    omega
theorem OkN.uniq {bs : List Int} {n m : Nat} (h : OkN bs n) (h2 : OkN bs m) : n = m := by
  rcases Nat.lt_trichotomy n m with q | q | q
  · have := h2.some n q; have := h.done; omega
  · exact q
  · have := h.some m q; have := h2.done; omega
theorem OkN.bad {bs : List Int} {n : Nat} (h : OkN bs n) (h2 : BadN bs) : False := by
  obtain ⟨m, h3, h4⟩ := h2
  rcases Nat.lt_or_ge m n with q | q
  · exact h4 (h.good (m + 1) q)
  · have := h3 n q; have := h.done; omega
theorem OkN.of {bs : List Int} (hb : Byt bs) {n : Nat} (h : (plD bs n).2 = 0) (h2 : bs.length ≤ (plD bs n).1) : OkN bs n := by
  have hle := (rds bs hb).le n
  refine ⟨fun j hj => plD_good hb (n - j) j (by rw [show j + (n - j) = n by omega]; exact h), fun j hj => ?_, h2⟩
  have := plD_mono hb (n - j) j (by rw [show j + (n - j) = n by omega]; exact h)
  rw [show j + (n - j) = n by omega] at this
  omega
def atN (ns : List Int) (i : Nat) : Int := ns.getD i 0
def cutM (most : Nat) (v : Int) : Nat := min v.toNat most
def sesOW (ν : Nat → Int) (i : Nat) : SsD := ⟨ν i, ν (i + 1), kpL ν (i + 3) (cutM 9 (ν (i + 2)))⟩
def sesEW (ν : Nat → Int) (i : Nat) : Nat := i + 3 + 4 * cutM 9 (ν (i + 2))
def sesPW (ν : Nat → Int) (q : Nat) : Nat → Nat
  | 0 => q
  | k + 1 => sesEW ν (sesPW ν q k)
def sesLW (ν : Nat → Int) (q k : Nat) : List SsD := (List.range k).map fun j => sesOW ν (sesPW ν q j)
theorem sesLW_len (ν : Nat → Int) (q k : Nat) : (sesLW ν q k).length = k := by unfold sesLW; simp
def imW (ν : Nat → Int) : Im := ⟨ν 0, nuL ν 3 (ν 2).toNat, ν 1, r16 ν (3 + (ν 2).toNat), sesLW ν (3 + (ν 2).toNat + 17) (cutM 17 (ν (3 + (ν 2).toNat + 16)))⟩
theorem cut_cnt {most : Nat} {v : Int} (h : v = (cnt most v : Int)) (h2 : cnt most v ≤ most) : cutM (most + 1) v = cnt most v := by
  unfold cutM; omega
theorem imW_of {ν : Nat → Int} (h : VI (imD ν)) : imW ν = imD ν := by
  have hf := h.fit
  have c1' : cnt 7 (ν 2) ≤ 7 := by have := hf.1; unfold imD at this; dsimp only at this; rw [nuL_len] at this; exact this
  have c1 : ν 2 = (cnt 7 (ν 2) : Int) := cnt_eq (by decide) c1'
  have c2' : cnt 16 (ν (3 + cnt 7 (ν 2) + 16)) ≤ 16 := by have := hf.2; unfold imD at this; dsimp only at this; rw [sesL_len] at this; exact this
  have c2 : ν (3 + cnt 7 (ν 2) + 16) = (cnt 16 (ν (3 + cnt 7 (ν 2) + 16)) : Int) := cnt_eq (by decide) c2'
  have e1 : (ν 2).toNat = cnt 7 (ν 2) := by omega
  have c3 : ∀ j, j < cnt 16 (ν (3 + cnt 7 (ν 2) + 16)) → cnt 8 (ν (sesP ν (3 + cnt 7 (ν 2) + 17) j + 2)) ≤ 8 := fun j hj => by
    have := (h.tb.each (sesO ν (sesP ν (3 + cnt 7 (ν 2) + 17) j)) (by
      unfold imD sesL
      exact List.mem_map.2 ⟨j, List.mem_range.2 hj, rfl⟩)).len
    unfold sesO at this
    rw [kpL_len] at this
    exact this
  have c4 : ∀ j, j < cnt 16 (ν (3 + cnt 7 (ν 2) + 16)) → cutM 9 (ν (sesP ν (3 + cnt 7 (ν 2) + 17) j + 2)) = cnt 8 (ν (sesP ν (3 + cnt 7 (ν 2) + 17) j + 2)) := fun j hj => cut_cnt (most := 8) (cnt_eq (by decide) (c3 j hj)) (c3 j hj)
  have c5 : cutM 17 (ν (3 + cnt 7 (ν 2) + 16)) = cnt 16 (ν (3 + cnt 7 (ν 2) + 16)) := cut_cnt (most := 16) c2 c2'
  have hP : ∀ j, j ≤ cnt 16 (ν (3 + cnt 7 (ν 2) + 16)) → sesPW ν (3 + cnt 7 (ν 2) + 17) j = sesP ν (3 + cnt 7 (ν 2) + 17) j := by
    intro j
    induction j with
    | zero => intro _; rfl
    | succ k ih =>
      intro hk
      show sesEW ν (sesPW ν _ k) = sesE ν (sesP ν _ k)
      rw [ih (by omega)]
      unfold sesEW sesE
      rw [c4 k (by omega)]
  unfold imW imD
  rw [e1, c5]
  congr 1
  unfold sesLW sesL
  refine List.map_congr_left fun j hj => ?_
  have hj' := List.mem_range.1 hj
  rw [hP j (by omega)]
  unfold sesOW sesO
  rw [c4 j hj']
def rdX (bs ns : List Int) : Int := if 16384 < bs.length then 44 else if atN ns 2 < 0 then 44 else if 7 < atN ns 2 then 44 else if validI (imW (atN ns)) = false then 44 else if intsL (numsI (imW (atN ns))) ≠ bs then 44 else 0
theorem atN_fit {ns : List Int} (h : ∀ x ∈ ns, I64 x) (i : Nat) : I64 (atN ns i) := by
  unfold atN
  rw [List.getD_eq_getElem?_getD]
  cases hx : ns[i]? with
  | none => show I64 0; unfold I64; omega
  | some x => exact h x (List.mem_of_getElem? hx)
theorem nuL_fit {ν : Nat → Int} (h : ∀ j, I64 (ν j)) (i k : Nat) : ∀ x ∈ nuL ν i k, I64 x := fun x hx => by
  obtain ⟨j, _, rfl⟩ := List.mem_map.1 hx
  exact h _
theorem imW_fit {ν : Nat → Int} (h : ∀ j, I64 (ν j)) (hv : VI (imW ν)) : NFit (imW ν) := by
  refine NFit.of ⟨hv, rfl, nuL_fit h _ _⟩ ?_
  intro s hs k hk
  obtain ⟨j, _, rfl⟩ := List.mem_map.1 hs
  obtain ⟨i, _, rfl⟩ := List.mem_map.1 hk
  exact ⟨h _, h _⟩
theorem nuL_atN (ns : List Int) : nuL (atN ns) 0 ns.length = ns := by
  apply List.ext_getElem
  · rw [nuL_len]
  · intro i h1 h2
    unfold nuL atN
    simp [List.getD_eq_getElem?_getD, h2]
theorem dec_nums {bs : List Int} (hb : Byt bs) (h : decX bs = 0) : OkN bs (enD (nuD bs)) ∧ nuL (nuD bs) 0 (enD (nuD bs)) = numsI (imD (nuD bs)) := by
  obtain ⟨hV, hB, hl⟩ := dec_ok hb h
  unfold decX at h
  rw [if_neg (by omega)] at h
  by_cases h1 : doneB bs.length (plD bs (enD (nuD bs))).1 (plD bs (enD (nuD bs))).2 ≠ 0
  · rw [if_pos h1] at h; cases h
  have hbad : (plD bs (enD (nuD bs))).2 = 0 ∧ bs.length ≤ (plD bs (enD (nuD bs))).1 := by
    unfold doneB at h1
    have h1 := Classical.not_not.1 h1
    split at h1
    · cases h1
    · rename_i q
      exact ⟨h1, by
        rcases Nat.lt_or_ge (plD bs (enD (nuD bs))).1 bs.length with z | z
        · exact absurd ⟨h1, z⟩ q
        · exact z⟩
  refine ⟨OkN.of hb hbad.1 hbad.2, ?_⟩
  have hf := hV.fit
  have c1 : nuD bs 2 = (cnt 7 (nuD bs 2) : Int) := cnt_eq (by decide) (by have := hf.1; unfold imD at this; dsimp only at this; rw [nuL_len] at this; exact this)
  have c2 : nuD bs (3 + cnt 7 (nuD bs 2) + 16) = (cnt 16 (nuD bs (3 + cnt 7 (nuD bs 2) + 16)) : Int) := cnt_eq (by decide) (by have := hf.2; unfold imD at this; dsimp only at this; rw [sesL_len] at this; exact this)
  rw [nums_imD (nuD bs) c1 c2 fun j hj => cnt_eq (by decide) ?_]
  have := (hV.tb.each (sesO (nuD bs) (sesP (nuD bs) (3 + cnt 7 (nuD bs 2) + 17) j)) (by
    unfold imD sesL
    exact List.mem_map.2 ⟨j, List.mem_range.2 hj, rfl⟩)).len
  unfold sesO at this
  rw [kpL_len] at this
  exact this
theorem decX_or (bs : List Int) : decX bs = 0 ∨ decX bs = 44 := by
  unfold decX; split
  · exact .inr rfl
  · split
    · exact .inr rfl
    · split
      · exact .inl rfl
      · exact .inr rfl
theorem rd_bad {bs : List Int} (hb : Byt bs) (h : BadN bs) : decX bs = 44 := by
  rcases decX_or bs with q | q
  · exact ((dec_nums hb q).1.bad h).elim
  · exact q
theorem rd_eq {bs : List Int} (hb : Byt bs) {n : Nat} (h : OkN bs n) : decX bs = rdX bs (nuL (nuD bs) 0 n) ∧ (decX bs = 0 → decI bs = imW (atN (nuL (nuD bs) 0 n))) := by
  obtain ⟨ns, ens⟩ : ∃ ns, ns = nuL (nuD bs) 0 n := ⟨_, rfl⟩
  have h64 : ∀ x ∈ ns, I64 x := by rw [ens]; exact nuL_fit (rds bs hb).fit _ _
  rw [← ens]
  by_cases hd : decX bs = 0
  · obtain ⟨hV, hB, hl⟩ := dec_ok hb hd
    obtain ⟨hok, hnu⟩ := dec_nums hb hd
    have hn : n = enD (nuD bs) := h.uniq hok
    rw [← hn] at hnu
    have hns : ns = numsI (imD (nuD bs)) := by rw [ens, hnu]
    have hnu2 : nuL (atN ns) 0 (numsI (imD (nuD bs))).length = numsI (imD (nuD bs)) := by rw [← hns]; exact nuL_atN ns
    have hI := (imD_back hV rfl hnu2).1
    have hV2 : VI (imD (atN ns)) := by rw [hI]; exact hV
    have hW := imW_of hV2
    have c1' : cnt 7 (atN ns 2) ≤ 7 := by have := hV2.fit.1; unfold imD at this; dsimp only at this; rw [nuL_len] at this; exact this
    have c1 : atN ns 2 = (cnt 7 (atN ns 2) : Int) := cnt_eq (by decide) c1'
    rw [hd]
    refine ⟨?_, fun _ => by rw [hW, hI]; unfold decI; rw [if_pos hd]⟩
    unfold rdX
    rw [if_neg (by omega), if_neg (by omega), if_neg (by omega), if_neg, if_neg]
    · rw [hW, hI, ← hB]; simp
    · rw [hW, hI, (validI_iff _).2 hV]; decide
  · refine ⟨?_, fun q => absurd q hd⟩
    rw [(decX_or bs).resolve_left hd]
    by_cases hr : rdX bs ns = 0
    · exfalso
      unfold rdX at hr
      by_cases g1 : 16384 < bs.length
      · rw [if_pos g1] at hr; cases hr
      rw [if_neg g1] at hr
      by_cases g2 : atN ns 2 < 0
      · rw [if_pos g2] at hr; cases hr
      rw [if_neg g2] at hr
      by_cases g3 : 7 < atN ns 2
      · rw [if_pos g3] at hr; cases hr
      rw [if_neg g3] at hr
      by_cases g4 : validI (imW (atN ns)) = false
      · rw [if_pos g4] at hr; cases hr
      rw [if_neg g4] at hr
      by_cases g5 : intsL (numsI (imW (atN ns))) ≠ bs
      · rw [if_pos g5] at hr; cases hr
      have hV : VI (imW (atN ns)) := (validI_iff _).1 (by simpa using g4)
      have := (dec_back hV rfl (imW_fit (atN_fit h64) hV)).1
      rw [Classical.not_not.1 g5] at this
      exact hd this
    · unfold rdX at hr ⊢
      split
      · rfl
      · rename_i g1
        rw [if_neg g1] at hr
        split
        · rfl
        · rename_i g2
          rw [if_neg g2] at hr
          split
          · rfl
          · rename_i g3
            rw [if_neg g3] at hr
            split
            · rfl
            · rename_i g4
              rw [if_neg g4] at hr
              split
              · rfl
              · rename_i g5
                rw [if_neg g5] at hr
                exact absurd rfl hr
def NumNew (w : World) (bs : List Int) (e : Ending) (w' : World) : Prop :=
  (∃ n a c, OkN bs n ∧ e = .returned (.tuple #[.slice a (nuL (nuD bs) 0 n).length c, .bool true]) ∧ (mrow a c (nuL (nuD bs) 0 n)).X w' ∧ (∀ k, (mrow a c (nuL (nuD bs) 0 n)).F k → w.heap.size ≤ k ∧ k < w'.heap.size) ∧ Below w.heap.size w w') ∨
  (BadN bs ∧ e = .returned (.tuple #[.slice none 0 0, .bool false]) ∧ Below w.heap.size w w')
def NuI (W : World) (a : Option Addr) (bs : List Int) (vs : Vals) (hx : HX) : Prop := ∃ (j : Nat) (an : Option Addr) (c : Nat) (ra : Option Addr) (rc : Nat), (plD bs j).2 = 0 ∧ (∀ i, i < j → (plD bs i).1 < bs.length) ∧ j ≤ (plD bs j).1 ∧ AtP bs a ra rc (plD bs j) ∧ Apart W HX.nil (mrow an c (nuL (nuD bs) 0 j)) ∧
  vs = ⟨[(plD bs j).2], [], [], [(nuL (nuD bs) 0 j).length, c, (bs.drop (plD bs j).1).length, rc], [an, ra]⟩ ∧ hx = HX.nil.and (mrow an c (nuL (nuD bs) 0 j))
set_option maxHeartbeats 4000000 in
theorem rnums_any (a : Option Addr) (cap : Nat) (bs : List Int) (w : World) (H : Qb w a bs) (hcap : bs.length ≤ cap) (hl : bs.length ≤ 1048576) : Calls Try.prog 62 #[.slice a bs.length cap] w (NumNew w bs) := by
  refine calls_at (tab_ok _) Try.func62 rfl tXRNums2 (ρ := ⟨[], [], [], [bs.length, cap], [a]⟩) (ids := []) (hx := HX.nil) (by kernel_rfl) (Facts.initP rfl oneNil) ?_
  have hb := H.byt
  refine loop_i (NuI w a bs) (fun vs => vs.n.getD 2 0) (fun ids w2 hp hf => ⟨HX.nil.and (mrow (some ⟨idAt ids 1, 0, none⟩) 0 []), ⟨⟨hf.x, HX.rw_nil _ _ _ _⟩, fun j hj => hj.elim (fun z => z.elim) (fun z => absurd rfl z.1)⟩, 0, some ⟨idAt ids 1, 0, none⟩, 0, a, cap, rfl, (fun i hi => absurd hi (Nat.not_lt_zero _)), Nat.zero_le _, AtP.start hcap 0, (fun z hz => absurd rfl hz.1), by kernel_rfl, rfl⟩) ?_
  rintro vs hx' hcnt ⟨j, an, c, ra, rc, hz, hlt, hjl, hA, hap, rfl, rfl⟩
  obtain ⟨q, eq⟩ : ∃ q, q = plD bs j := ⟨_, rfl⟩
  obtain ⟨M, eM⟩ : ∃ M, M = nuL (nuD bs) 0 j := ⟨_, rfl⟩
  have lM : M.length = j := by rw [eM, nuL_len]
  have hg : ∀ i, i ≤ j → (plD bs i).2 = 0 := fun i hi => plD_good hb (j - i) i (by rw [show i + (j - i) = j by omega]; exact hz)
  have hqle : (plD bs j).1 ≤ bs.length := (rds bs hb).le j
  have hst : stN bs q = plD bs (j + 1) := by rw [eq]; rfl
  rw [← eM] at hap
  rw [← eq, ← eM] at hcnt
  rw [← eq] at hA hz hjl hqle
  rw [← eM, ← eq]
  have hdl : (bs.drop q.1).length = bs.length - q.1 := List.length_drop
  by_cases hgo : 0 < (bs.drop q.1).length
  case' neg =>
    refine br_F (decide (((bs.drop q.1).length : Int) > 0)) (by kernel_rfl) (decide_eq_false (by omega)) ?_
    intro ids w2 hp hf
    refine .inl ⟨j, an, c, ⟨hg, hlt, by rw [← eq]; omega⟩, by rw [← eM]; kernel_rfl, by rw [← eM]; exact hf.x.2, fun k hk => ⟨(hap k (by rw [eM]; exact hk)).1, (hf.sep k (.inr (by rw [eM]; exact hk))).1⟩, hf.chg.below⟩
  refine br_T (decide (((bs.drop q.1).length : Int) > 0)) (by kernel_rfl) (decide_eq_true (by omega)) ?_
  have hu : unN bs q < 2 ^ 64 := readN_u64 (l := bs.drop q.1) (fun b z => hb b (List.mem_of_mem_drop z)) q.2
  refine node_q (bs := bs) (a := a) (p' := stN bs q) (V := fun v => .tuple #[v, .int .u64 (unN bs q : Int)]) #[qR bs ra rc q] (fun a2 c2 => ⟨[(stN bs q).2, (unN bs q : Int)], [], [], [(bs.drop (stN bs q).1).length, c2], [a2]⟩) (by intros; kernel_rfl) (by kernel_rfl) (by kernel_rfl) (by intros; kernel_rfl) (fun _ _ => oneNil) (by intros; kernel_rfl) (fun ids w2 hp hf => qnumP (H.keep (facts_old (fun k hk => hk) hf)) hA) ?_
  intro a2 c2' hA2
  by_cases hbad : (stN bs q).2 = 0
  case' neg =>
    refine br_T ((stN bs q).2 != 0) (by kernel_rfl) (by simpa using hbad) ?_
    intro ids w2 hp hf
    refine .inr ⟨⟨j, fun i hi => ?_, by rw [← hst]; exact hbad⟩, by kernel_rfl, hf.chg.below⟩
    rcases Nat.lt_or_ge i j with z | z
    · exact hlt i z
    · rw [show i = j by omega, ← eq]; omega
  refine br_F ((stN bs q).2 != 0) (by kernel_rfl) (by simpa using hbad) ?_
  have hx64 : nuD bs j = unfoldN (unN bs q) := by rw [eq]; rfl
  refine node_P ⟨[nuD bs j], [], [], [], []⟩ #[.int .u64 (unN bs q : Int)] (.int .i64 (nuD bs j)) (by intros; kernel_rfl) (by intros; kernel_rfl) (by kernel_rfl) (by kernel_rfl) (by kernel_rfl) oneNil (fun ids w2 hp hf => by rw [hx64]; exact runfold_any hu w2) ?_
  refine node_iapp rfl rfl an c M [nuD bs j] (fun ids => some ⟨idAt ids 3, 0, none⟩) 1 (by intros; kernel_rfl) (by intros; kernel_rfl) (fun ids w2 hp hf => lit_cl hf 3 rfl (by intros; kernel_rfl)) hap (by rw [show [nuD bs j].length = 1 from rfl]; omega) (by intros; kernel_rfl) (by kernel_rfl) (by kernel_rfl) (by intros; kernel_rfl) ?_
  intro an' cn' hap'
  have hMn : M ++ [nuD bs j] = nuL (nuD bs) 0 (j + 1) := by rw [nuL_app, ← eM, nuL_one, Nat.zero_add]
  have hstep := plD_step hb (j := j) (by rw [← hst]; exact hbad)
  rw [← hst, ← eq] at hstep
  refine again_V ⟨[(stN bs q).2], [], [], [(M ++ [nuD bs j]).length, cn', (bs.drop (stN bs q).1).length, c2'], [an', a2]⟩ rfl (fun ids => Eq.trans (b := ⟨[(stN bs q).2], [], [], [M.length + [nuD bs j].length, cn', (bs.drop (stN bs q).1).length, c2'], [an', a2]⟩) (by kernel_rfl) (by rw [List.length_append])) _ (fun w2 ids hf => ⟨hf.x, hf.sep⟩) ⟨⟨j + 1, an', cn', a2, c2', by rw [← hst]; exact hbad, fun i hi => ?_, by rw [← hst]; omega, by rw [← hst]; exact hA2, by rw [← hMn]; exact hap', by rw [hMn, hst], by rw [hMn]⟩, ?_⟩
  · rcases Nat.lt_or_ge i j with z | z
    · exact hlt i z
    · rw [show i = j by omega, ← eq]; omega
  · show (bs.drop (stN bs q).1).length < (bs.drop q.1).length
    have := stN_le bs q
    rw [List.length_drop, List.length_drop]; omega
theorem rat20_any (a : Option Addr) (c : Nat) (ns : List Int) (i : Nat) (w : World) (H : Cells w a (ns.map (Value.int .i64))) : Calls Try.prog 63 #[.slice a ns.length c, .int .i64 (i : Int)] w (PureAt w (.int .i64 (atN ns i))) := by
  refine calls_at (tab_ok _) Try.func63 rfl tXRAt2 (ρ := ⟨[(i : Int)], [], [], [ns.length, c], [a]⟩) (ids := []) (hx := HX.nil) (by kernel_rfl) (Facts.initP rfl oneNil) ?_
  refine br_F (decide ((i : Int) < 0)) (by kernel_rfl) (decide_eq_false (by omega)) ?_
  by_cases h : i < ns.length
  case' neg =>
    refine br_T (decide ((i : Int) ≥ (ns.length : Int))) (by kernel_rfl) (decide_eq_true (by omega)) ?_
    exact pure_done (fun ids => Eq.trans (b := .int .i64 0) (by kernel_rfl) (by unfold atN; rw [List.getD_eq_getElem?_getD, List.getElem?_eq_none (by omega)]; rfl))
  refine br_F (decide ((i : Int) ≥ (ns.length : Int))) (by kernel_rfl) (decide_eq_false (by omega)) ?_
  obtain ⟨x, hx⟩ : ∃ x, ns[i]? = some x := ⟨_, List.getElem?_eq_getElem h⟩
  obtain ⟨q0, q1⟩ := cl_elt H (i := i) (sz := 1) [.int .i64 x] (fun k u hk => by
    cases k with
    | zero =>
      simp only [List.getElem?_cons_zero, Option.some.injEq] at hk
      rw [Nat.mul_one, Nat.add_zero, List.getElem?_map, hx, ← hk]; rfl
    | succ n => simp at hk) (by simp)
  refine need_k (a.isSome = true ∧ (0 : Int) ≤ i ∧ (i : Int) < ns.length) (by kernel_rfl) ⟨q0, by omega, by omega⟩ ?_
  refine node_ld0 (k := ⟨1, 0, 0, 2, 1⟩) ⟨[x], [], [], [], []⟩ (.pointer (some (((a.getD ⟨0, 0, none⟩).add (i * 1)).add 0))) [.int .i64 x] (by intros; kernel_rfl) (by intros; kernel_rfl) (q1 _ id) ⟨by kernel_rfl, oneNil⟩ (by kernel_rfl) oneNil ?_
  exact pure_done (fun ids => Eq.trans (b := .int .i64 x) (by kernel_rfl) (by unfold atN; rw [List.getD_eq_getElem?_getD, hx]; rfl))
end Go.Proofs.Ytfjiolgdcphjhaa

namespace Go.Proofs.Ytfjiolgdcphjhaa
open Go.ChangeShapes Go.WideShapes Go.ChangeAt Go.RowKit Go.Syn Go.Eng
set_option linter.unusedVariables false
set_option linter.unusedSimpArgs false
set_option maxRecDepth 100000
theorem wad1 (a : Nat) (h : a ≤ 100000) : IntKind.i64.wrap ((a : Int) + 1) = ((a + 1 : Nat) : Int) := by rw [wrap_i64 (by omega)]; omega
theorem wad2 (a : Nat) (h : a ≤ 100000) : IntKind.i64.wrap ((a : Int) + 2) = ((a + 2 : Nat) : Int) := by rw [wrap_i64 (by omega)]; omega
theorem wad3 (a : Nat) (h : a ≤ 100000) : IntKind.i64.wrap ((a : Int) + 3) = ((a + 3 : Nat) : Int) := by rw [wrap_i64 (by omega)]; omega
theorem wad4 (a : Nat) (h : a ≤ 100000) : IntKind.i64.wrap ((a : Int) + 4) = ((a + 4 : Nat) : Int) := by rw [wrap_i64 (by omega)]; omega
theorem wh0 {q0 : Nat} (h : q0 ≤ 1000) : (q0 : Int) = ((q0 + 0 : Nat) : Int) := by
  rfl
theorem wh1 {q0 : Nat} (h : q0 ≤ 1000) : IntKind.i64.wrap ((q0 : Int) + 1) = ((q0 + 1 : Nat) : Int) := by
  rw [wad1 q0 (by omega)]
theorem wh2 {q0 : Nat} (h : q0 ≤ 1000) : IntKind.i64.wrap ((q0 : Int) + 2) = ((q0 + 2 : Nat) : Int) := by
  rw [wad2 q0 (by omega)]
theorem wh3 {q0 : Nat} (h : q0 ≤ 1000) : IntKind.i64.wrap (IntKind.i64.wrap ((q0 : Int) + 2) + 1) = ((q0 + 3 : Nat) : Int) := by
  rw [wad2 q0 (by omega), wad1 (q0 + 2) (by omega)]
theorem wh4 {q0 : Nat} (h : q0 ≤ 1000) : IntKind.i64.wrap (IntKind.i64.wrap ((q0 : Int) + 2) + 2) = ((q0 + 4 : Nat) : Int) := by
  rw [wad2 q0 (by omega), wad2 (q0 + 2) (by omega)]
theorem wh5 {q0 : Nat} (h : q0 ≤ 1000) : IntKind.i64.wrap (IntKind.i64.wrap (IntKind.i64.wrap ((q0 : Int) + 2) + 2) + 1) = ((q0 + 5 : Nat) : Int) := by
  rw [wad2 q0 (by omega), wad2 (q0 + 2) (by omega), wad1 (q0 + 4) (by omega)]
theorem wh6 {q0 : Nat} (h : q0 ≤ 1000) : IntKind.i64.wrap (IntKind.i64.wrap (IntKind.i64.wrap ((q0 : Int) + 2) + 2) + 2) = ((q0 + 6 : Nat) : Int) := by
  rw [wad2 q0 (by omega), wad2 (q0 + 2) (by omega), wad2 (q0 + 4) (by omega)]
theorem wh7 {q0 : Nat} (h : q0 ≤ 1000) : IntKind.i64.wrap (IntKind.i64.wrap (IntKind.i64.wrap (IntKind.i64.wrap ((q0 : Int) + 2) + 2) + 2) + 1) = ((q0 + 7 : Nat) : Int) := by
  rw [wad2 q0 (by omega), wad2 (q0 + 2) (by omega), wad2 (q0 + 4) (by omega), wad1 (q0 + 6) (by omega)]
theorem wh8 {q0 : Nat} (h : q0 ≤ 1000) : IntKind.i64.wrap (IntKind.i64.wrap (IntKind.i64.wrap (IntKind.i64.wrap ((q0 : Int) + 2) + 2) + 2) + 2) = ((q0 + 8 : Nat) : Int) := by
  rw [wad2 q0 (by omega), wad2 (q0 + 2) (by omega), wad2 (q0 + 4) (by omega), wad2 (q0 + 6) (by omega)]
theorem wh9 {q0 : Nat} (h : q0 ≤ 1000) : IntKind.i64.wrap (IntKind.i64.wrap (IntKind.i64.wrap (IntKind.i64.wrap (IntKind.i64.wrap ((q0 : Int) + 2) + 2) + 2) + 2) + 1) = ((q0 + 9 : Nat) : Int) := by
  rw [wad2 q0 (by omega), wad2 (q0 + 2) (by omega), wad2 (q0 + 4) (by omega), wad2 (q0 + 6) (by omega), wad1 (q0 + 8) (by omega)]
theorem wh10 {q0 : Nat} (h : q0 ≤ 1000) : IntKind.i64.wrap (IntKind.i64.wrap (IntKind.i64.wrap (IntKind.i64.wrap (IntKind.i64.wrap ((q0 : Int) + 2) + 2) + 2) + 2) + 2) = ((q0 + 10 : Nat) : Int) := by
  rw [wad2 q0 (by omega), wad2 (q0 + 2) (by omega), wad2 (q0 + 4) (by omega), wad2 (q0 + 6) (by omega), wad2 (q0 + 8) (by omega)]
theorem wh11 {q0 : Nat} (h : q0 ≤ 1000) : IntKind.i64.wrap (IntKind.i64.wrap (IntKind.i64.wrap (IntKind.i64.wrap (IntKind.i64.wrap (IntKind.i64.wrap ((q0 : Int) + 2) + 2) + 2) + 2) + 2) + 1) = ((q0 + 11 : Nat) : Int) := by
  rw [wad2 q0 (by omega), wad2 (q0 + 2) (by omega), wad2 (q0 + 4) (by omega), wad2 (q0 + 6) (by omega), wad2 (q0 + 8) (by omega), wad1 (q0 + 10) (by omega)]
theorem wh12 {q0 : Nat} (h : q0 ≤ 1000) : IntKind.i64.wrap (IntKind.i64.wrap (IntKind.i64.wrap (IntKind.i64.wrap (IntKind.i64.wrap (IntKind.i64.wrap ((q0 : Int) + 2) + 2) + 2) + 2) + 2) + 2) = ((q0 + 12 : Nat) : Int) := by
  rw [wad2 q0 (by omega), wad2 (q0 + 2) (by omega), wad2 (q0 + 4) (by omega), wad2 (q0 + 6) (by omega), wad2 (q0 + 8) (by omega), wad2 (q0 + 10) (by omega)]
theorem wh13 {q0 : Nat} (h : q0 ≤ 1000) : IntKind.i64.wrap (IntKind.i64.wrap (IntKind.i64.wrap (IntKind.i64.wrap (IntKind.i64.wrap (IntKind.i64.wrap (IntKind.i64.wrap ((q0 : Int) + 2) + 2) + 2) + 2) + 2) + 2) + 1) = ((q0 + 13 : Nat) : Int) := by
  rw [wad2 q0 (by omega), wad2 (q0 + 2) (by omega), wad2 (q0 + 4) (by omega), wad2 (q0 + 6) (by omega), wad2 (q0 + 8) (by omega), wad2 (q0 + 10) (by omega), wad1 (q0 + 12) (by omega)]
theorem wh14 {q0 : Nat} (h : q0 ≤ 1000) : IntKind.i64.wrap (IntKind.i64.wrap (IntKind.i64.wrap (IntKind.i64.wrap (IntKind.i64.wrap (IntKind.i64.wrap (IntKind.i64.wrap ((q0 : Int) + 2) + 2) + 2) + 2) + 2) + 2) + 2) = ((q0 + 14 : Nat) : Int) := by
  rw [wad2 q0 (by omega), wad2 (q0 + 2) (by omega), wad2 (q0 + 4) (by omega), wad2 (q0 + 6) (by omega), wad2 (q0 + 8) (by omega), wad2 (q0 + 10) (by omega), wad2 (q0 + 12) (by omega)]
theorem wh15 {q0 : Nat} (h : q0 ≤ 1000) : IntKind.i64.wrap (IntKind.i64.wrap (IntKind.i64.wrap (IntKind.i64.wrap (IntKind.i64.wrap (IntKind.i64.wrap (IntKind.i64.wrap (IntKind.i64.wrap ((q0 : Int) + 2) + 2) + 2) + 2) + 2) + 2) + 2) + 1) = ((q0 + 15 : Nat) : Int) := by
  rw [wad2 q0 (by omega), wad2 (q0 + 2) (by omega), wad2 (q0 + 4) (by omega), wad2 (q0 + 6) (by omega), wad2 (q0 + 8) (by omega), wad2 (q0 + 10) (by omega), wad2 (q0 + 12) (by omega), wad1 (q0 + 14) (by omega)]
theorem wh16 {q0 : Nat} (h : q0 ≤ 1000) : IntKind.i64.wrap (IntKind.i64.wrap (IntKind.i64.wrap (IntKind.i64.wrap (IntKind.i64.wrap (IntKind.i64.wrap (IntKind.i64.wrap (IntKind.i64.wrap ((q0 : Int) + 2) + 2) + 2) + 2) + 2) + 2) + 2) + 2) = ((q0 + 16 : Nat) : Int) := by
  rw [wad2 q0 (by omega), wad2 (q0 + 2) (by omega), wad2 (q0 + 4) (by omega), wad2 (q0 + 6) (by omega), wad2 (q0 + 8) (by omega), wad2 (q0 + 10) (by omega), wad2 (q0 + 12) (by omega), wad2 (q0 + 14) (by omega)]
theorem wh17 {q0 : Nat} (h : q0 ≤ 1000) : IntKind.i64.wrap (IntKind.i64.wrap (IntKind.i64.wrap (IntKind.i64.wrap (IntKind.i64.wrap (IntKind.i64.wrap (IntKind.i64.wrap (IntKind.i64.wrap (IntKind.i64.wrap ((q0 : Int) + 2) + 2) + 2) + 2) + 2) + 2) + 2) + 2) + 1) = ((q0 + 17 : Nat) : Int) := by
  rw [wad2 q0 (by omega), wad2 (q0 + 2) (by omega), wad2 (q0 + 4) (by omega), wad2 (q0 + 6) (by omega), wad2 (q0 + 8) (by omega), wad2 (q0 + 10) (by omega), wad2 (q0 + 12) (by omega), wad2 (q0 + 14) (by omega), wad1 (q0 + 16) (by omega)]
def DmW (W : World) (R : HX) (ν : Nat → Int) (n : Nat) (vs : Vals) (hx : HX) : Prop := ∃ (k : Nat) (a : Option Addr) (c : Nat), k ≤ n ∧ Apart W R (mrow a c (nuL ν 3 k)) ∧
  vs = ⟨[((3 + k : Nat) : Int), ν 0, ν 1, 0, 0, 0, 0, 0, 0, 0, 0, 0, 0, 0, 0, 0, 0, 0, 0], [], [], [(nuL ν 3 k).length, c, 0, 0], [a, none]⟩ ∧ hx = R.and (mrow a c (nuL ν 3 k))
def DsW (W : World) (R : HX) (ν : Nat → Int) (rr : List Int) (q n : Nat) (ml mc : Nat) (ma : Option Addr) (vs : Vals) (hx : HX) : Prop := ∃ (k : Nat) (a : Option Addr) (c : Nat) (ds : List SE), k ≤ n ∧ ds.map SE.s = sesLW ν q k ∧ Dj a c ds ∧ Apart W R (ksR ds) ∧ Apart W R (srow a c ds) ∧ sesPW ν q k ≤ q + 39 * k ∧
  vs = ⟨[((sesPW ν q k : Nat) : Int), (k : Int), ν 0, ν 1] ++ rr, [], [], [ml, mc, ds.length, c], [ma, a]⟩ ∧ hx = (R.and (ksR ds)).and (srow a c ds)
def DkW (W : World) (T : HX) (ν : Nat → Int) (q n : Nat) (no ack : Int) (vs : Vals) (hx : HX) : Prop := ∃ (k : Nat) (a : Option Addr) (c : Nat), k ≤ n ∧ Apart W T (krow a c (kpL ν q k)) ∧
  vs = ⟨[((q + 4 * k : Nat) : Int), (k : Int), no, ack], [], [], [(kpL ν q k).length, c], [a]⟩ ∧ hx = T.and (krow a c (kpL ν q k))
set_option maxHeartbeats 16000000 in
theorem rdec20_any (a : Option Addr) (cap : Nat) (bs : List Int) (w : World) (H : Qb w a bs) (hcap : bs.length ≤ cap) (hl : bs.length ≤ 1048576) : Calls Try.prog 29 #[.slice a bs.length cap] w (ImNew w (fun v => .tuple #[v, .int .i64 (decX bs)]) (decI bs)) := by
  refine calls_at (tab_ok _) Try.func29 rfl tXRDec2 (ρ := ⟨[], [], [], [bs.length, cap], [a]⟩) (ids := []) (hx := HX.nil) (by kernel_rfl) (Facts.initP rfl oneNil) ?_
  have hb := H.byt
  have keep : ∀ {m : Mem} {ρ : Env} {ids : List Nat} {hx : HX} {w2 : World} {R : Ending → World → Prop}, Facts ⟨Try.prog, w, fun _ => False, R⟩ m ρ ids hx w2 → Qb w2 a bs := fun hf => H.keep (facts_old (fun k hk => hk) hf)
  obtain ⟨E, eE⟩ : ∃ E, E = decX bs := ⟨_, rfl⟩
  obtain ⟨DI, eDI⟩ : ∃ D, D = decI bs := ⟨_, rfl⟩
  rw [← eE, ← eDI]
  have bad : ∀ {v : SV} {m : Mem} {ρ : Env} {hx : HX} {L : Stack} {pre : List Nat}, E = 44 → (∀ ids, v.den ρ ids = .tuple #[imV im0 none 0 none 0, .int .i64 44]) → (Tree.done v m).holds ⟨Try.prog, w, fun _ => False, ImNew w (fun v => .tuple #[v, .int .i64 E]) DI⟩ ρ pre hx L := by
    intro v m ρ hx L pre h1 h2 ids w2 hp hf
    have h3 : DI = im0 := by rw [eDI]; unfold decI; rw [← eE, h1]; rfl
    rw [h1, h3, h2]
    refine ⟨none, 0, none, 0, [], rfl, rfl, ⟨fun i j e e' _ h => by simp at h, fun e he => (by cases he)⟩, (fun q hq => by
      rcases hq with ⟨e, he, _⟩ | hq
      · cases he
      · exact absurd rfl hq.1), ⟨cl_nil _ _, ⟨fun e he => (by cases he), HX.rw_nil _ _ _ _⟩⟩, ?_, hf.chg.below⟩
    rintro k (hk | ⟨e, he, _⟩ | hk)
    · exact absurd rfl hk.1
    · cases he
    · exact absurd rfl hk.1
  refine node_out (fun _ => #[.slice a bs.length cap]) (fun u hy => (∃ n na nc, OkN bs n ∧ u = ⟨[], [true], [], [(nuL (nuD bs) 0 n).length, nc], [na]⟩ ∧ hy = mrow na nc (nuL (nuD bs) 0 n)) ∨ (BadN bs ∧ u = ⟨[], [false], [], [0, 0], [none]⟩ ∧ hy = HX.nil)) (by intros; kernel_rfl) (fun ids w2 hp hf => ?_) (by kernel_rfl) (by kernel_rfl) ?_ ?_
  · refine (rnums_any a cap bs w2 (keep hf) hcap hl).mono ?_
    rintro e w' (⟨n, na, nc, h1, rfl, h2, h3, h4⟩ | ⟨h1, rfl, h2⟩)
    · exact ⟨_, _, .inl ⟨n, na, nc, h1, rfl, rfl⟩, by kernel_rfl, h2, h3, h4⟩
    · exact ⟨_, _, .inr ⟨h1, rfl, rfl⟩, by kernel_rfl, trivial, (fun k hk => hk.elim), h2⟩
  · rintro u hy (⟨n, na, nc, h1, rfl, rfl⟩ | ⟨h1, rfl, rfl⟩)
    · exact ⟨by kernel_rfl, oneNil⟩
    · exact ⟨by kernel_rfl, oneNil⟩
  rintro u hy (⟨n0, na, nc, hok, rfl, rfl⟩ | ⟨h1, rfl, rfl⟩) hfr0
  case' inr => exact br_t (by kernel_rfl) (bad (by rw [eE]; exact rd_bad hb h1) (by intros; kernel_rfl))
  obtain ⟨hE, hD⟩ := rd_eq hb hok
  obtain ⟨ns, ens⟩ : ∃ ns, ns = nuL (nuD bs) 0 n0 := ⟨_, rfl⟩
  have h64 : ∀ x ∈ ns, I64 x := by rw [ens]; exact nuL_fit (rds bs hb).fit _ _
  rw [← ens] at hE hD hfr0 ⊢
  rw [← eE] at hE hD
  rw [← eDI] at hD
  have hνf := atN_fit h64
  obtain ⟨R, eR⟩ : ∃ R, R = HX.nil.and (mrow na nc ns) := ⟨_, rfl⟩
  have cN : ∀ {w2 : World}, R.X w2 → Cells w2 na (ns.map (Value.int .i64)) := fun h => by rw [eR] at h; exact rw_cells h.2
  have hat : ∀ {w2 : World} (i : Nat), R.X w2 → Calls Try.prog 63 #[.slice na ns.length nc, .int .i64 (i : Int)] w2 (PureAt w2 (.int .i64 (atN ns i))) := fun i h => rat20_any na nc ns i _ (cN h)
  rw [← eR]
  obtain ⟨ν, eν⟩ : ∃ ν, ν = atN ns := ⟨_, rfl⟩
  have hat : ∀ {w2 : World} (i : Nat), R.X w2 → Calls Try.prog 63 #[.slice na ns.length nc, .int .i64 (i : Int)] w2 (PureAt w2 (.int .i64 (ν i))) := by rw [eν]; exact hat
  unfold rdX at hE
  rw [← eν] at hE hD hνf
  refine br_f (by kernel_rfl) ?_
  by_cases h0 : 16384 < bs.length
  · exact br_T (decide ((bs.length : Int) > 16384)) (by kernel_rfl) (decide_eq_true (by omega)) (bad (by rw [hE, if_pos h0]) (by intros; kernel_rfl))
  rw [if_neg h0] at hE
  refine br_F (decide ((bs.length : Int) > 16384)) (by kernel_rfl) (decide_eq_false (by omega)) ?_

  refine node_P ⟨[ν (2)], [], [], [], []⟩ #[.slice na ns.length nc, .int .i64 ((2 : Nat) : Int)] (.int .i64 (ν (2))) (by intros; kernel_rfl) (by intros; kernel_rfl) (by kernel_rfl) (by kernel_rfl) (by kernel_rfl) oneNil (fun ids w2 hp hf => hat (2) hf.x) ?_
  by_cases g2 : ν 2 < 0
  · exact br_T (decide (ν 2 < 0)) (by kernel_rfl) (decide_eq_true g2) (bad (by rw [hE, if_pos g2]) (by intros; kernel_rfl))
  rw [if_neg g2] at hE
  refine br_F (decide (ν 2 < 0)) (by kernel_rfl) (decide_eq_false g2) ?_
  refine node_P ⟨[ν (2)], [], [], [], []⟩ #[.slice na ns.length nc, .int .i64 ((2 : Nat) : Int)] (.int .i64 (ν (2))) (by intros; kernel_rfl) (by intros; kernel_rfl) (by kernel_rfl) (by kernel_rfl) (by kernel_rfl) oneNil (fun ids w2 hp hf => hat (2) hf.x) ?_
  by_cases g3 : 7 < ν 2
  · exact br_T (decide (ν 2 > 7)) (by kernel_rfl) (decide_eq_true (by omega)) (bad (by rw [hE, if_pos g3]) (by intros; kernel_rfl))
  rw [if_neg g3] at hE
  refine br_F (decide (ν 2 > 7)) (by kernel_rfl) (decide_eq_false (by omega)) ?_
  refine node_P ⟨[ν (0)], [], [], [], []⟩ #[.slice na ns.length nc, .int .i64 ((0 : Nat) : Int)] (.int .i64 (ν (0))) (by intros; kernel_rfl) (by intros; kernel_rfl) (by kernel_rfl) (by kernel_rfl) (by kernel_rfl) oneNil (fun ids w2 hp hf => hat (0) hf.x) ?_
  refine node_P ⟨[ν (1)], [], [], [], []⟩ #[.slice na ns.length nc, .int .i64 ((1 : Nat) : Int)] (.int .i64 (ν (1))) (by intros; kernel_rfl) (by intros; kernel_rfl) (by kernel_rfl) (by kernel_rfl) (by kernel_rfl) oneNil (fun ids w2 hp hf => hat (1) hf.x) ?_
  obtain ⟨n, en⟩ : ∃ n, n = (ν 2).toNat := ⟨_, rfl⟩
  have hn2 : ν 2 = (n : Int) := by omega
  have hn7 : n ≤ 7 := by omega
  refine loop_i (DmW w R ν n) (fun vs => n + 3 - (vs.i.headD 0).toNat) (fun ids w2 hp hf => ⟨R.and (mrow none 0 []), ⟨⟨hf.x, HX.rw_nil _ _ _ _⟩, fun q hq => hq.elim (fun z => hf.sep q z) (fun z => absurd rfl z.1)⟩, 0, none, 0, Nat.zero_le _, (fun q hq => absurd rfl hq.1), (by intros; kernel_rfl), rfl⟩) ?_
  rintro vs hx' hcnt ⟨k, ma, mc, hk, hap, rfl, rfl⟩
  obtain ⟨M, eM⟩ : ∃ M, M = nuL ν 3 k := ⟨_, rfl⟩
  have hMl : M.length = k := by rw [eM, nuL_len]
  rw [← eM] at hap hcnt ⊢
  obtain ⟨q0, eq0⟩ : ∃ q, q = 3 + k := ⟨_, rfl⟩
  rw [← eq0] at hcnt ⊢
  have hq0 : q0 ≤ 1000 := by omega
  refine holds_env (ρ' := ⟨[ν 2, ν 2, ν 0, ν 1, (q0 : Int), ν 0, ν 1, 0, 0, 0, 0, 0, 0, 0, 0, 0, 0, 0, 0, 0, 0, 0, 0], [true], [], [bs.length, cap, ns.length, nc, M.length, mc, 0, 0], [a, na, ma, none]⟩) (by kernel_rfl) ?_
  refine node_P ⟨[ν (2)], [], [], [], []⟩ #[.slice na ns.length nc, .int .i64 ((2 : Nat) : Int)] (.int .i64 (ν (2))) (by intros; kernel_rfl) (by intros; kernel_rfl) (by kernel_rfl) (by kernel_rfl) (by kernel_rfl) oneNil (fun ids w2 hp hf => hat (2) hf.x.1) ?_
  by_cases hlt : k < n
  · refine br_T (decide ((M.length : Int) < ν 2)) (by kernel_rfl) (decide_eq_true (by omega)) ?_
    have hwk : IntKind.i64.wrap ((q0 : Int) + 1) = ((3 + (k + 1) : Nat) : Int) := by rw [wrap_i64 (by omega)]; omega
    have hMn : M ++ [ν q0] = nuL ν 3 (k + 1) := by rw [eM, nuL_app, nuL_one, eq0]
    refine par_i ?_ ?_
    all_goals
      refine node_P ⟨[ν (q0)], [], [], [], []⟩ #[.slice na ns.length nc, .int .i64 ((q0 : Nat) : Int)] (.int .i64 (ν (q0))) (by intros; kernel_rfl) (by intros; kernel_rfl) (by kernel_rfl) (by kernel_rfl) (by kernel_rfl) oneNil (fun ids w2 hp hf => hat (q0) hf.x.1) ?_
      try refine par_i ?_ ?_
    all_goals
      refine node_iapp rfl rfl ma mc M [ν q0] (fun ids => some ⟨idAt ids 2, 0, none⟩) 1 (by intros; kernel_rfl) (by intros; kernel_rfl) (fun ids w2 hp hf => lit_cl hf 2 rfl (by intros; kernel_rfl)) hap (by rw [show [ν q0].length = 1 from rfl]; omega) (by intros; kernel_rfl) (by kernel_rfl) (by kernel_rfl) (by intros; kernel_rfl) ?_
      intro ma' mc' hap'
      refine again_V ⟨[((3 + (k + 1) : Nat) : Int), ν 0, ν 1, 0, 0, 0, 0, 0, 0, 0, 0, 0, 0, 0, 0, 0, 0, 0, 0], [], [], [(M ++ [ν q0]).length, mc', 0, 0], [ma', none]⟩ rfl (fun ids => Eq.trans (b := ⟨[IntKind.i64.wrap ((q0 : Int) + 1), ν 0, ν 1, 0, 0, 0, 0, 0, 0, 0, 0, 0, 0, 0, 0, 0, 0, 0, 0], [], [], [M.length + [ν q0].length, mc', 0, 0], [ma', none]⟩) (by kernel_rfl) (by rw [hwk, List.length_append])) _ (fun w2 ids hf => ⟨hf.x, hf.sep⟩) ⟨⟨k + 1, ma', mc', hlt, by rw [← hMn]; exact hap', by rw [← hMn], by rw [← hMn]⟩, ?_⟩
      show n + 3 - (((3 + (k + 1) : Nat) : Int)).toNat < n + 3 - ((q0 : Int)).toNat
      omega
  refine br_F (decide ((M.length : Int) < ν 2)) (by kernel_rfl) (decide_eq_false (by omega)) ?_
  obtain rfl : k = n := by omega
  refine node_P ⟨[ν (q0 + 0)], [], [], [], []⟩ #[.slice na ns.length nc, .int .i64 ((q0 + 0 : Nat) : Int)] (.int .i64 (ν (q0 + 0))) (fun ids => Eq.trans (b := #[.slice na ns.length nc, .int .i64 ((q0 : Int))]) (by kernel_rfl) (by rw [wh0 hq0])) (by intros; kernel_rfl) (by kernel_rfl) (by kernel_rfl) (by kernel_rfl) oneNil (fun ids w2 hp hf => hat (q0 + 0) hf.x.1) ?_
  refine node_P ⟨[ν (q0 + 1)], [], [], [], []⟩ #[.slice na ns.length nc, .int .i64 ((q0 + 1 : Nat) : Int)] (.int .i64 (ν (q0 + 1))) (fun ids => Eq.trans (b := #[.slice na ns.length nc, .int .i64 (IntKind.i64.wrap ((q0 : Int) + 1))]) (by kernel_rfl) (by rw [wh1 hq0])) (by intros; kernel_rfl) (by kernel_rfl) (by kernel_rfl) (by kernel_rfl) oneNil (fun ids w2 hp hf => hat (q0 + 1) hf.x.1) ?_
  refine node_P ⟨[ν (q0 + 2)], [], [], [], []⟩ #[.slice na ns.length nc, .int .i64 ((q0 + 2 : Nat) : Int)] (.int .i64 (ν (q0 + 2))) (fun ids => Eq.trans (b := #[.slice na ns.length nc, .int .i64 (IntKind.i64.wrap ((q0 : Int) + 2))]) (by kernel_rfl) (by rw [wh2 hq0])) (by intros; kernel_rfl) (by kernel_rfl) (by kernel_rfl) (by kernel_rfl) oneNil (fun ids w2 hp hf => hat (q0 + 2) hf.x.1) ?_
  refine node_P ⟨[ν (q0 + 3)], [], [], [], []⟩ #[.slice na ns.length nc, .int .i64 ((q0 + 3 : Nat) : Int)] (.int .i64 (ν (q0 + 3))) (fun ids => Eq.trans (b := #[.slice na ns.length nc, .int .i64 (IntKind.i64.wrap (IntKind.i64.wrap ((q0 : Int) + 2) + 1))]) (by kernel_rfl) (by rw [wh3 hq0])) (by intros; kernel_rfl) (by kernel_rfl) (by kernel_rfl) (by kernel_rfl) oneNil (fun ids w2 hp hf => hat (q0 + 3) hf.x.1) ?_
  refine node_P ⟨[ν (q0 + 4)], [], [], [], []⟩ #[.slice na ns.length nc, .int .i64 ((q0 + 4 : Nat) : Int)] (.int .i64 (ν (q0 + 4))) (fun ids => Eq.trans (b := #[.slice na ns.length nc, .int .i64 (IntKind.i64.wrap (IntKind.i64.wrap ((q0 : Int) + 2) + 2))]) (by kernel_rfl) (by rw [wh4 hq0])) (by intros; kernel_rfl) (by kernel_rfl) (by kernel_rfl) (by kernel_rfl) oneNil (fun ids w2 hp hf => hat (q0 + 4) hf.x.1) ?_
  refine node_P ⟨[ν (q0 + 5)], [], [], [], []⟩ #[.slice na ns.length nc, .int .i64 ((q0 + 5 : Nat) : Int)] (.int .i64 (ν (q0 + 5))) (fun ids => Eq.trans (b := #[.slice na ns.length nc, .int .i64 (IntKind.i64.wrap (IntKind.i64.wrap (IntKind.i64.wrap ((q0 : Int) + 2) + 2) + 1))]) (by kernel_rfl) (by rw [wh5 hq0])) (by intros; kernel_rfl) (by kernel_rfl) (by kernel_rfl) (by kernel_rfl) oneNil (fun ids w2 hp hf => hat (q0 + 5) hf.x.1) ?_
  refine node_P ⟨[ν (q0 + 6)], [], [], [], []⟩ #[.slice na ns.length nc, .int .i64 ((q0 + 6 : Nat) : Int)] (.int .i64 (ν (q0 + 6))) (fun ids => Eq.trans (b := #[.slice na ns.length nc, .int .i64 (IntKind.i64.wrap (IntKind.i64.wrap (IntKind.i64.wrap ((q0 : Int) + 2) + 2) + 2))]) (by kernel_rfl) (by rw [wh6 hq0])) (by intros; kernel_rfl) (by kernel_rfl) (by kernel_rfl) (by kernel_rfl) oneNil (fun ids w2 hp hf => hat (q0 + 6) hf.x.1) ?_
  refine node_P ⟨[ν (q0 + 7)], [], [], [], []⟩ #[.slice na ns.length nc, .int .i64 ((q0 + 7 : Nat) : Int)] (.int .i64 (ν (q0 + 7))) (fun ids => Eq.trans (b := #[.slice na ns.length nc, .int .i64 (IntKind.i64.wrap (IntKind.i64.wrap (IntKind.i64.wrap (IntKind.i64.wrap ((q0 : Int) + 2) + 2) + 2) + 1))]) (by kernel_rfl) (by rw [wh7 hq0])) (by intros; kernel_rfl) (by kernel_rfl) (by kernel_rfl) (by kernel_rfl) oneNil (fun ids w2 hp hf => hat (q0 + 7) hf.x.1) ?_
  refine node_P ⟨[ν (q0 + 8)], [], [], [], []⟩ #[.slice na ns.length nc, .int .i64 ((q0 + 8 : Nat) : Int)] (.int .i64 (ν (q0 + 8))) (fun ids => Eq.trans (b := #[.slice na ns.length nc, .int .i64 (IntKind.i64.wrap (IntKind.i64.wrap (IntKind.i64.wrap (IntKind.i64.wrap ((q0 : Int) + 2) + 2) + 2) + 2))]) (by kernel_rfl) (by rw [wh8 hq0])) (by intros; kernel_rfl) (by kernel_rfl) (by kernel_rfl) (by kernel_rfl) oneNil (fun ids w2 hp hf => hat (q0 + 8) hf.x.1) ?_
  refine node_P ⟨[ν (q0 + 9)], [], [], [], []⟩ #[.slice na ns.length nc, .int .i64 ((q0 + 9 : Nat) : Int)] (.int .i64 (ν (q0 + 9))) (fun ids => Eq.trans (b := #[.slice na ns.length nc, .int .i64 (IntKind.i64.wrap (IntKind.i64.wrap (IntKind.i64.wrap (IntKind.i64.wrap (IntKind.i64.wrap ((q0 : Int) + 2) + 2) + 2) + 2) + 1))]) (by kernel_rfl) (by rw [wh9 hq0])) (by intros; kernel_rfl) (by kernel_rfl) (by kernel_rfl) (by kernel_rfl) oneNil (fun ids w2 hp hf => hat (q0 + 9) hf.x.1) ?_
  refine node_P ⟨[ν (q0 + 10)], [], [], [], []⟩ #[.slice na ns.length nc, .int .i64 ((q0 + 10 : Nat) : Int)] (.int .i64 (ν (q0 + 10))) (fun ids => Eq.trans (b := #[.slice na ns.length nc, .int .i64 (IntKind.i64.wrap (IntKind.i64.wrap (IntKind.i64.wrap (IntKind.i64.wrap (IntKind.i64.wrap ((q0 : Int) + 2) + 2) + 2) + 2) + 2))]) (by kernel_rfl) (by rw [wh10 hq0])) (by intros; kernel_rfl) (by kernel_rfl) (by kernel_rfl) (by kernel_rfl) oneNil (fun ids w2 hp hf => hat (q0 + 10) hf.x.1) ?_
  refine node_P ⟨[ν (q0 + 11)], [], [], [], []⟩ #[.slice na ns.length nc, .int .i64 ((q0 + 11 : Nat) : Int)] (.int .i64 (ν (q0 + 11))) (fun ids => Eq.trans (b := #[.slice na ns.length nc, .int .i64 (IntKind.i64.wrap (IntKind.i64.wrap (IntKind.i64.wrap (IntKind.i64.wrap (IntKind.i64.wrap (IntKind.i64.wrap ((q0 : Int) + 2) + 2) + 2) + 2) + 2) + 1))]) (by kernel_rfl) (by rw [wh11 hq0])) (by intros; kernel_rfl) (by kernel_rfl) (by kernel_rfl) (by kernel_rfl) oneNil (fun ids w2 hp hf => hat (q0 + 11) hf.x.1) ?_
  refine node_P ⟨[ν (q0 + 12)], [], [], [], []⟩ #[.slice na ns.length nc, .int .i64 ((q0 + 12 : Nat) : Int)] (.int .i64 (ν (q0 + 12))) (fun ids => Eq.trans (b := #[.slice na ns.length nc, .int .i64 (IntKind.i64.wrap (IntKind.i64.wrap (IntKind.i64.wrap (IntKind.i64.wrap (IntKind.i64.wrap (IntKind.i64.wrap ((q0 : Int) + 2) + 2) + 2) + 2) + 2) + 2))]) (by kernel_rfl) (by rw [wh12 hq0])) (by intros; kernel_rfl) (by kernel_rfl) (by kernel_rfl) (by kernel_rfl) oneNil (fun ids w2 hp hf => hat (q0 + 12) hf.x.1) ?_
  refine node_P ⟨[ν (q0 + 13)], [], [], [], []⟩ #[.slice na ns.length nc, .int .i64 ((q0 + 13 : Nat) : Int)] (.int .i64 (ν (q0 + 13))) (fun ids => Eq.trans (b := #[.slice na ns.length nc, .int .i64 (IntKind.i64.wrap (IntKind.i64.wrap (IntKind.i64.wrap (IntKind.i64.wrap (IntKind.i64.wrap (IntKind.i64.wrap (IntKind.i64.wrap ((q0 : Int) + 2) + 2) + 2) + 2) + 2) + 2) + 1))]) (by kernel_rfl) (by rw [wh13 hq0])) (by intros; kernel_rfl) (by kernel_rfl) (by kernel_rfl) (by kernel_rfl) oneNil (fun ids w2 hp hf => hat (q0 + 13) hf.x.1) ?_
  refine node_P ⟨[ν (q0 + 14)], [], [], [], []⟩ #[.slice na ns.length nc, .int .i64 ((q0 + 14 : Nat) : Int)] (.int .i64 (ν (q0 + 14))) (fun ids => Eq.trans (b := #[.slice na ns.length nc, .int .i64 (IntKind.i64.wrap (IntKind.i64.wrap (IntKind.i64.wrap (IntKind.i64.wrap (IntKind.i64.wrap (IntKind.i64.wrap (IntKind.i64.wrap ((q0 : Int) + 2) + 2) + 2) + 2) + 2) + 2) + 2))]) (by kernel_rfl) (by rw [wh14 hq0])) (by intros; kernel_rfl) (by kernel_rfl) (by kernel_rfl) (by kernel_rfl) oneNil (fun ids w2 hp hf => hat (q0 + 14) hf.x.1) ?_
  refine node_P ⟨[ν (q0 + 15)], [], [], [], []⟩ #[.slice na ns.length nc, .int .i64 ((q0 + 15 : Nat) : Int)] (.int .i64 (ν (q0 + 15))) (fun ids => Eq.trans (b := #[.slice na ns.length nc, .int .i64 (IntKind.i64.wrap (IntKind.i64.wrap (IntKind.i64.wrap (IntKind.i64.wrap (IntKind.i64.wrap (IntKind.i64.wrap (IntKind.i64.wrap (IntKind.i64.wrap ((q0 : Int) + 2) + 2) + 2) + 2) + 2) + 2) + 2) + 1))]) (by kernel_rfl) (by rw [wh15 hq0])) (by intros; kernel_rfl) (by kernel_rfl) (by kernel_rfl) (by kernel_rfl) oneNil (fun ids w2 hp hf => hat (q0 + 15) hf.x.1) ?_
  refine node_P ⟨[ν (q0 + 16)], [], [], [], []⟩ #[.slice na ns.length nc, .int .i64 ((q0 + 16 : Nat) : Int)] (.int .i64 (ν (q0 + 16))) (fun ids => Eq.trans (b := #[.slice na ns.length nc, .int .i64 (IntKind.i64.wrap (IntKind.i64.wrap (IntKind.i64.wrap (IntKind.i64.wrap (IntKind.i64.wrap (IntKind.i64.wrap (IntKind.i64.wrap (IntKind.i64.wrap ((q0 : Int) + 2) + 2) + 2) + 2) + 2) + 2) + 2) + 2))]) (by kernel_rfl) (by rw [wh16 hq0])) (by intros; kernel_rfl) (by kernel_rfl) (by kernel_rfl) (by kernel_rfl) oneNil (fun ids w2 hp hf => hat (q0 + 16) hf.x.1) ?_
  obtain ⟨q, eq⟩ : ∃ q, q = q0 + 17 := ⟨_, rfl⟩
  obtain ⟨V, eV⟩ : ∃ V, V = ν (q0 + 16) := ⟨_, rfl⟩
  rw [← eV]
  obtain ⟨sn, esn⟩ : ∃ sn, sn = cutM 17 V := ⟨_, rfl⟩
  have hs17 : sn ≤ 17 := by rw [esn]; exact Nat.min_le_right _ _
  obtain ⟨r0, er0⟩ : ∃ r, r = ν (q0 + 0) := ⟨_, rfl⟩
  obtain ⟨r1, er1⟩ : ∃ r, r = ν (q0 + 1) := ⟨_, rfl⟩
  obtain ⟨r2, er2⟩ : ∃ r, r = ν (q0 + 2) := ⟨_, rfl⟩
  obtain ⟨r3, er3⟩ : ∃ r, r = ν (q0 + 3) := ⟨_, rfl⟩
  obtain ⟨r4, er4⟩ : ∃ r, r = ν (q0 + 4) := ⟨_, rfl⟩
  obtain ⟨r5, er5⟩ : ∃ r, r = ν (q0 + 5) := ⟨_, rfl⟩
  obtain ⟨r6, er6⟩ : ∃ r, r = ν (q0 + 6) := ⟨_, rfl⟩
  obtain ⟨r7, er7⟩ : ∃ r, r = ν (q0 + 7) := ⟨_, rfl⟩
  obtain ⟨r8, er8⟩ : ∃ r, r = ν (q0 + 8) := ⟨_, rfl⟩
  obtain ⟨r9, er9⟩ : ∃ r, r = ν (q0 + 9) := ⟨_, rfl⟩
  obtain ⟨r10, er10⟩ : ∃ r, r = ν (q0 + 10) := ⟨_, rfl⟩
  obtain ⟨r11, er11⟩ : ∃ r, r = ν (q0 + 11) := ⟨_, rfl⟩
  obtain ⟨r12, er12⟩ : ∃ r, r = ν (q0 + 12) := ⟨_, rfl⟩
  obtain ⟨r13, er13⟩ : ∃ r, r = ν (q0 + 13) := ⟨_, rfl⟩
  obtain ⟨r14, er14⟩ : ∃ r, r = ν (q0 + 14) := ⟨_, rfl⟩
  obtain ⟨r15, er15⟩ : ∃ r, r = ν (q0 + 15) := ⟨_, rfl⟩
  rw [← er0, ← er1, ← er2, ← er3, ← er4, ← er5, ← er6, ← er7, ← er8, ← er9, ← er10, ← er11, ← er12, ← er13, ← er14, ← er15]
  refine holds_env (ρ' := ⟨[ν 2, ν 2, ν 0, ν 1, (q0 : Int), ν 0, ν 1, 0, 0, 0, 0, 0, 0, 0, 0, 0, 0, 0, 0, 0, 0, 0, 0, ν 2, r0, r1, r2, r3, r4, r5, r6, r7, r8, r9, r10, r11, r12, r13, r14, r15, V], [true], [], [bs.length, cap, ns.length, nc, M.length, mc, 0, 0], [a, na, ma, none]⟩) (by kernel_rfl) ?_
  obtain ⟨R1, eR1⟩ : ∃ R1, R1 = R.and (mrow ma mc M) := ⟨_, rfl⟩
  rw [← eR1]
  have cR : ∀ {w2 : World}, R1.X w2 → R.X w2 := fun h => by rw [eR1] at h; exact h.1
  refine loop_i (DsW w R1 ν [r0, r1, r2, r3, r4, r5, r6, r7, r8, r9, r10, r11, r12, r13, r14, r15] q sn M.length mc ma) (fun vs => sn - (vs.i.getD 1 0).toNat) (fun ids w2 hp hf => ⟨(R1.and (ksR [])).and (srow none 0 []), ⟨⟨⟨hf.x, fun e he => (by cases he)⟩, HX.rw_nil _ _ _ _⟩, fun z hz => hz.elim (fun y => y.elim (fun x => hf.sep z x) (fun ⟨e, he, _⟩ => (by cases he))) (fun y => absurd rfl y.1)⟩, 0, none, 0, [], Nat.zero_le _, rfl, ⟨fun i j e e' _ h => by simp at h, fun e he => (by cases he)⟩, (fun z ⟨e, he, _⟩ => (by cases he)), (fun z hz => absurd rfl hz.1), Nat.le_refl _, (fun ids => Eq.trans (b := ⟨[IntKind.i64.wrap (IntKind.i64.wrap (IntKind.i64.wrap (IntKind.i64.wrap (IntKind.i64.wrap (IntKind.i64.wrap (IntKind.i64.wrap (IntKind.i64.wrap (IntKind.i64.wrap ((q0 : Int) + 2) + 2) + 2) + 2) + 2) + 2) + 2) + 2) + 1), 0, ν 0, ν 1, r0, r1, r2, r3, r4, r5, r6, r7, r8, r9, r10, r11, r12, r13, r14, r15], [], [], [M.length, mc, 0, 0], [ma, none]⟩) (by kernel_rfl) (by rw [wh17 hq0]; show _ = (⟨[((q : Nat) : Int), _, _, _, _, _, _, _, _, _, _, _, _, _, _, _, _, _, _, _], _, _, _, _⟩ : Vals); rw [eq]; rfl)) ids, rfl⟩) ?_
  rintro vs hx' hcnt2 ⟨j, sa, sc, ds, hj, hdm, hdj, hapk, haps, hub, rfl, rfl⟩
  obtain ⟨u, eu⟩ : ∃ u, u = sesPW ν q j := ⟨_, rfl⟩
  have hdl : ds.length = j := by have := congrArg List.length hdm; rw [List.length_map, sesLW_len] at this; exact this
  rw [← eu] at hub
  rw [← eu]
  have hu1 : u ≤ 900 := by omega
  refine holds_env (ρ' := ⟨[ν 2, ν 2, ν 0, ν 1, (q0 : Int), ν 0, ν 1, 0, 0, 0, 0, 0, 0, 0, 0, 0, 0, 0, 0, 0, 0, 0, 0, ν 2, r0, r1, r2, r3, r4, r5, r6, r7, r8, r9, r10, r11, r12, r13, r14, r15, V, (u : Int), (j : Int), ν 0, ν 1, r0, r1, r2, r3, r4, r5, r6, r7, r8, r9, r10, r11, r12, r13, r14, r15], [true], [], [bs.length, cap, ns.length, nc, M.length, mc, 0, 0, M.length, mc, ds.length, sc], [a, na, ma, none, ma, sa]⟩) (by kernel_rfl) ?_
  obtain ⟨T, eT⟩ : ∃ T, T = (R1.and (ksR ds)).and (srow sa sc ds) := ⟨_, rfl⟩
  have cT : ∀ {w2 : World}, T.X w2 → R.X w2 := fun h => by rw [eT] at h; exact cR h.1.1
  rw [← eT]
  by_cases hlt : j < sn
  case' neg =>
    obtain rfl : j = sn := by omega
    obtain ⟨D, eD⟩ : ∃ D : Im, D = ⟨ν 0, M, ν 1, [r0, r1, r2, r3, r4, r5, r6, r7, r8, r9, r10, r11, r12, r13, r14, r15], ds.map SE.s⟩ := ⟨_, rfl⟩
    have hDi : imW ν = D := by
      rw [eD, hdm, eM]; unfold imW
      rw [← en, ← eq0, ← eV, ← esn, ← eq]
      unfold r16
      rw [er0, er1, er2, er3, er4, er5, er6, er7, er8, er9, er10, er11, er12, er13, er14, er15]
    rw [hDi] at hE hD
    have hM64 : ∀ x ∈ M, I64 x := by rw [eM]; exact nuL_fit hνf _ _
    have at_ : ∀ {w2 : World}, T.X w2 → ImAt w2 D ma sa ds := fun h => by
      rw [eT] at h
      rw [eD]
      refine ⟨rfl, Ints.of_cells (show M.length ≤ _ by omega) hM64 ?_, tabR_at ⟨h.1.2, h.2⟩, rfl⟩
      have := h.1.1
      rw [eR1] at this
      exact rw_cells this.2
    have hVC : imV D ma mc sa sc = .agg ([.int .i64 (ν 0), .slice ma M.length mc, .int .i64 (ν 1), .int .i64 r0, .int .i64 r1, .int .i64 r2, .int .i64 r3, .int .i64 r4, .int .i64 r5, .int .i64 r6, .int .i64 r7, .int .i64 r8, .int .i64 r9, .int .i64 r10, .int .i64 r11, .int .i64 r12, .int .i64 r13, .int .i64 r14, .int .i64 r15, .slice sa ds.length sc] : List Value).toArray := by rw [eD]; unfold imV imC; simp only [List.length_map]; rfl
    by_cases h1 : (j : Int) < V
    case' pos =>
      refine br_T (decide ((j : Int) < V)) (by kernel_rfl) (decide_eq_true h1) ?_
      refine br_F (decide ((j : Int) < 17)) (by kernel_rfl) (decide_eq_false (by unfold cutM at esn; omega)) ?_
    case' neg =>
      refine br_F (decide ((j : Int) < V)) (by kernel_rfl) (decide_eq_false h1) ?_
    all_goals
      refine node_P ⟨[], [validI D], [], [], []⟩ #[imV D ma mc sa sc] (.bool (validI D)) (by rw [hVC]; intros; kernel_rfl) (by intros; kernel_rfl) (by kernel_rfl) (by kernel_rfl) (by kernel_rfl) oneNil (fun ids w2 hp hf => rvalid20_any D ma mc sa sc ds w2 (at_ hf.x)) ?_
      rcases Bool.eq_false_or_eq_true (validI D) with hv | hv
      case' inr => exact br_T (!(validI D)) (by kernel_rfl) (by rw [hv]; rfl) (bad (by rw [hE, if_pos hv]) (by intros; kernel_rfl))
      refine br_F (!(validI D)) (by kernel_rfl) (by rw [hv]; rfl) ?_
      have hDV : VI D := (validI_iff D).1 hv
      have hDN : NFit D := by rw [← hDi] at hDV ⊢; exact imW_fit hνf hDV
      rw [if_neg (by rw [hv]; decide)] at hE
      obtain ⟨xb, exb⟩ : ∃ xb, xb = intsL (numsI D) := ⟨_, rfl⟩
      rw [← exb] at hE
      have lxb : xb.length ≤ 9 * 600 := by
        have h1 := intsL_len hDN
        have h2 := nums_len hDV
        rw [exb]; omega
      refine node_newi (V := id) (bs := xb) (fun ids => #[imV D ma mc sa sc]) (fun a' c' => ⟨[], [], [], [xb.length, c'], [a']⟩) (by rw [hVC]; intros; kernel_rfl) (fun ids w2 hp hf => by rw [exb]; exact rbytes20_any D ma mc sa sc ds w2 (at_ hf.x) hDV hDN) (by intros; kernel_rfl) (by kernel_rfl) (by kernel_rfl) (by intros; kernel_rfl) (fun _ _ => oneNil) ?_
      intro s1 s2 hs1 hs2
      refine node_P ⟨[], [decide (xb = bs)], [], [], []⟩ #[.slice s1 xb.length s2, .slice a bs.length cap] (.bool (decide (xb = bs))) (by intros; kernel_rfl) (by intros; kernel_rfl) (by kernel_rfl) (by kernel_rfl) (by kernel_rfl) oneNil (fun ids w2 hp hf => sameb_any s1 s2 xb a cap bs w2 (frow_cells hf.x.2) (keep hf).mem (by omega)) ?_
      by_cases hsm : xb = bs
      case' neg => exact br_T (!(decide (xb = bs))) (by kernel_rfl) (by simpa using hsm) (bad (by rw [hE, if_pos hsm]) (by intros; kernel_rfl))
      refine br_F (!(decide (xb = bs))) (by kernel_rfl) (by simpa using hsm) ?_
      have hE0 : E = 0 := by rw [hE, if_neg (fun z => z hsm)]
      rw [hD hE0, hE0]
      intro ids w2 hp hf
      refine ⟨ma, mc, sa, sc, ds, by rw [eD], ?_, hdj, ?_, ?_, ?_, hf.chg.below⟩
      · rw [hVC]; kernel_rfl
      all_goals have hX := hf.x.1
      all_goals rw [eT, eR1] at hX
      all_goals have hcl : ∀ z, (HX.cl ma (D.mem.map (Value.int .i64))).F z → (mrow ma mc M).F z := by rw [eD]; exact (rw_cl hX.1.1.2).2
      · intro z hz hz2
        have h2 : R1.F z := by rw [eR1]; exact .inr (hcl z hz2)
        exact hz.elim (fun y => (hapk z y).2 h2) (fun y => (haps z y).2 h2)
      · refine ⟨?_, ⟨hX.1.2, hX.2⟩⟩
        rw [eD]; exact (rw_cl hX.1.1.2).1
      · rintro z (hz | hz | hz)
        · exact (hap z (hcl z hz)).1
        · exact (hapk z hz).1
        · exact (haps z hz).1
  refine br_T (decide ((j : Int) < V)) (by kernel_rfl) (decide_eq_true (by unfold cutM at esn; omega)) ?_
  refine br_T (decide ((j : Int) < 17)) (by kernel_rfl) (decide_eq_true (by omega)) ?_
  obtain ⟨kn, ekn⟩ : ∃ kn, kn = cutM 9 (ν (u + 2)) := ⟨_, rfl⟩
  have hk9 : kn ≤ 9 := by rw [ekn]; exact Nat.min_le_right _ _
  have hw1 : IntKind.i64.wrap ((u : Int) + 1) = ((u + 1 : Nat) : Int) := wad1 u (by omega)
  have hw2 : IntKind.i64.wrap ((u : Int) + 2) = ((u + 2 : Nat) : Int) := wad2 u (by omega)
  have hw3 : IntKind.i64.wrap ((u : Int) + 3) = ((u + 3 : Nat) : Int) := wad3 u (by omega)
  refine node_P ⟨[ν (u)], [], [], [], []⟩ #[.slice na ns.length nc, .int .i64 ((u : Nat) : Int)] (.int .i64 (ν (u))) (by intros; kernel_rfl) (by intros; kernel_rfl) (by kernel_rfl) (by kernel_rfl) (by kernel_rfl) oneNil (fun ids w2 hp hf => hat (u) (cT hf.x)) ?_
  refine node_P ⟨[ν (u + 1)], [], [], [], []⟩ #[.slice na ns.length nc, .int .i64 ((u + 1 : Nat) : Int)] (.int .i64 (ν (u + 1))) (fun ids => Eq.trans (b := #[.slice na ns.length nc, .int .i64 (IntKind.i64.wrap ((u : Int) + 1))]) (by kernel_rfl) (by rw [hw1])) (by intros; kernel_rfl) (by kernel_rfl) (by kernel_rfl) (by kernel_rfl) oneNil (fun ids w2 hp hf => hat (u + 1) (cT hf.x)) ?_
  refine node_P ⟨[ν (u + 2)], [], [], [], []⟩ #[.slice na ns.length nc, .int .i64 ((u + 2 : Nat) : Int)] (.int .i64 (ν (u + 2))) (fun ids => Eq.trans (b := #[.slice na ns.length nc, .int .i64 (IntKind.i64.wrap ((u : Int) + 2))]) (by kernel_rfl) (by rw [hw2])) (by intros; kernel_rfl) (by kernel_rfl) (by kernel_rfl) (by kernel_rfl) oneNil (fun ids w2 hp hf => hat (u + 2) (cT hf.x)) ?_
  refine loop_i (DkW w T ν (u + 3) kn (ν u) (ν (u + 1))) (fun vs => kn - (vs.i.getD 1 0).toNat) (fun ids w2 hp hf => ⟨T.and (krow none 0 []), ⟨⟨hf.x, krow_nil _ _⟩, fun z hz => hz.elim (fun y => hf.sep z y) (fun y => absurd y (krow_none _ z))⟩, 0, none, 0, Nat.zero_le _, (fun z hz => absurd hz (krow_none _ z)), (fun ids => Eq.trans (b := ⟨[IntKind.i64.wrap ((u : Int) + 3), 0, ν u, ν (u + 1)], [], [], [0, 0], [none]⟩) (by kernel_rfl) (by rw [hw3]; rfl)) ids, rfl⟩) ?_
  rintro vs hx' hcnt3 ⟨i, ka, kc, hi, hapj, rfl, rfl⟩
  obtain ⟨l, el⟩ : ∃ l, l = kpL ν (u + 3) i := ⟨_, rfl⟩
  have hll : l.length = i := by rw [el, kpL_len]
  rw [← el] at hapj hcnt3 ⊢
  obtain ⟨v, ev⟩ : ∃ v, v = u + 3 + 4 * i := ⟨_, rfl⟩
  rw [← ev] at hcnt3 ⊢
  refine holds_env (ρ' := ⟨[ν 2, ν 2, ν 0, ν 1, (q0 : Int), ν 0, ν 1, 0, 0, 0, 0, 0, 0, 0, 0, 0, 0, 0, 0, 0, 0, 0, 0, ν 2, r0, r1, r2, r3, r4, r5, r6, r7, r8, r9, r10, r11, r12, r13, r14, r15, V, (u : Int), (j : Int), ν 0, ν 1, r0, r1, r2, r3, r4, r5, r6, r7, r8, r9, r10, r11, r12, r13, r14, r15, ν u, ν (u + 1), ν (u + 2), (v : Int), (i : Int), ν u, ν (u + 1)], [true], [], [bs.length, cap, ns.length, nc, M.length, mc, 0, 0, M.length, mc, ds.length, sc, l.length, kc], [a, na, ma, none, ma, sa, ka]⟩) (by kernel_rfl) ?_
  by_cases hlti : i < kn
  · refine br_T (decide ((i : Int) < ν (u + 2))) (by kernel_rfl) (decide_eq_true (by unfold cutM at ekn; omega)) ?_
    refine br_T (decide ((i : Int) < 9)) (by kernel_rfl) (decide_eq_true (by omega)) ?_
    obtain ⟨x, ex⟩ : ∃ x, x = kpO ν v := ⟨_, rfl⟩
    have hnx : l ++ [x] = kpL ν (u + 3) (i + 1) := by rw [el, ex, ev]; unfold kpL; rw [range_snoc]
    have hv4 : v + 4 = u + 3 + 4 * (i + 1) := by omega
    have hwk : IntKind.i64.wrap ((i : Int) + 1) = ((i + 1 : Nat) : Int) := wad1 i (by omega)
    have hz1 : IntKind.i64.wrap ((v : Int) + 1) = ((v + 1 : Nat) : Int) := wad1 v (by omega)
    have hz2 : IntKind.i64.wrap ((v : Int) + 2) = ((v + 2 : Nat) : Int) := wad2 v (by omega)
    have hz3 : IntKind.i64.wrap ((v : Int) + 3) = ((v + 3 : Nat) : Int) := wad3 v (by omega)
    have hz4 : IntKind.i64.wrap ((v : Int) + 4) = ((v + 4 : Nat) : Int) := wad4 v (by omega)
    refine par_i ?_ ?_
    all_goals
      refine node_P ⟨[ν (v)], [], [], [], []⟩ #[.slice na ns.length nc, .int .i64 ((v : Nat) : Int)] (.int .i64 (ν (v))) (by intros; kernel_rfl) (by intros; kernel_rfl) (by kernel_rfl) (by kernel_rfl) (by kernel_rfl) oneNil (fun ids w2 hp hf => hat (v) (cT hf.x.1)) ?_
      try refine par_i ?_ ?_
    all_goals
      refine node_P ⟨[ν (v + 1)], [], [], [], []⟩ #[.slice na ns.length nc, .int .i64 ((v + 1 : Nat) : Int)] (.int .i64 (ν (v + 1))) (fun ids => Eq.trans (b := #[.slice na ns.length nc, .int .i64 (IntKind.i64.wrap ((v : Int) + 1))]) (by kernel_rfl) (by rw [hz1])) (by intros; kernel_rfl) (by kernel_rfl) (by kernel_rfl) (by kernel_rfl) oneNil (fun ids w2 hp hf => hat (v + 1) (cT hf.x.1)) ?_
      try refine par_i ?_ ?_
    all_goals
      refine node_P ⟨[ν (v + 2)], [], [], [], []⟩ #[.slice na ns.length nc, .int .i64 ((v + 2 : Nat) : Int)] (.int .i64 (ν (v + 2))) (fun ids => Eq.trans (b := #[.slice na ns.length nc, .int .i64 (IntKind.i64.wrap ((v : Int) + 2))]) (by kernel_rfl) (by rw [hz2])) (by intros; kernel_rfl) (by kernel_rfl) (by kernel_rfl) (by kernel_rfl) oneNil (fun ids w2 hp hf => hat (v + 2) (cT hf.x.1)) ?_
      try refine par_i ?_ ?_
    all_goals
      refine node_P ⟨[ν (v + 3)], [], [], [], []⟩ #[.slice na ns.length nc, .int .i64 ((v + 3 : Nat) : Int)] (.int .i64 (ν (v + 3))) (fun ids => Eq.trans (b := #[.slice na ns.length nc, .int .i64 (IntKind.i64.wrap ((v : Int) + 3))]) (by kernel_rfl) (by rw [hz3])) (by intros; kernel_rfl) (by kernel_rfl) (by kernel_rfl) (by kernel_rfl) oneNil (fun ids w2 hp hf => hat (v + 3) (cT hf.x.1)) ?_
      try refine par_i ?_ ?_
    all_goals
      refine node_kpush rfl rfl ka kc l x 3 (by intros; kernel_rfl) (by intros; kernel_rfl) rfl (by rw [ex]; intros; kernel_rfl) hapj (by omega) (by intros; kernel_rfl) (by kernel_rfl) (by kernel_rfl) (by intros; kernel_rfl) ?_
      intro ka' kc' hap'
      have hl2 : (l ++ [x]).length = l.length + 1 := by rw [List.length_append]; rfl
      refine again_V ⟨[((v + 4 : Nat) : Int), ((i + 1 : Nat) : Int), ν u, ν (u + 1)], [], [], [(l ++ [x]).length, kc'], [ka']⟩ rfl (fun ids => Eq.trans (b := ⟨[IntKind.i64.wrap ((v : Int) + 4), IntKind.i64.wrap ((i : Int) + 1), ν u, ν (u + 1)], [], [], [l.length + 1, kc'], [ka']⟩) (by kernel_rfl) (by rw [hwk, hl2, hz4])) _ (fun w2 ids hf => ⟨hf.x, hf.sep⟩) ⟨⟨i + 1, ka', kc', hlti, by rw [← hnx]; exact hap', by rw [← hnx, ← hv4], by rw [← hnx]⟩, ?_⟩
      show kn - (((i + 1 : Nat) : Int)).toNat < kn - ((i : Int)).toNat
      omega
  obtain rfl : kn = i := by omega
  obtain ⟨e', ee'⟩ : ∃ e' : SE, e' = ⟨⟨ν u, ν (u + 1), l⟩, ka, kc⟩ := ⟨_, rfl⟩
  have hkR : kRow e' = krow ka kc l := by rw [ee']; rfl
  have hTs : ∀ z, (R1.F z ∨ (ksR ds).F z ∨ (srow sa sc ds).F z) → T.F z := fun z hz => by
    rw [eT]
    rcases hz with hz | hz | hz
    · exact .inl (.inl hz)
    · exact .inl (.inr hz)
    · exact .inr hz
  have hsn : ∀ z, (ksR (ds ++ [e'])).F z → (ksR ds).F z ∨ (krow ka kc l).F z := fun z hz => by
    rw [ksR_snoc, hkR] at hz; exact hz
  have haps2 : Apart w (R1.and (ksR (ds ++ [e']))) (srow sa sc ds) := fun z hz => ⟨(haps z hz).1, fun y => by
    rcases y with y | y
    · exact (haps z hz).2 y
    · rcases hsn z y with y | y
      · obtain ⟨x, hx, hy⟩ := y
        exact hdj.tab x hx z hy hz
      · exact (hapj z y).2 (hTs z (.inr (.inr hz)))⟩
  have hwj : IntKind.i64.wrap ((j : Int) + 1) = ((j + 1 : Nat) : Int) := wad1 j (by omega)
  have hl2 : (ds ++ [e']).length = ds.length + 1 := by rw [List.length_append]; rfl
  have hse : sesPW ν q (j + 1) = v := by
    show sesEW ν (sesPW ν q j) = _
    rw [← eu, ev, ekn]; rfl
  by_cases h1 : (kn : Int) < ν (u + 2)
  case' pos =>
    refine br_T (decide ((kn : Int) < ν (u + 2))) (by kernel_rfl) (decide_eq_true h1) ?_
    refine br_F (decide ((kn : Int) < 9)) (by kernel_rfl) (decide_eq_false (by unfold cutM at ekn; omega)) ?_
  case' neg =>
    refine br_F (decide ((kn : Int) < ν (u + 2))) (by kernel_rfl) (decide_eq_false h1) ?_
  all_goals
    refine holds_eq (show _ = (R1.and (ksR (ds ++ [e']))).and (srow sa sc ds) from by rw [eT, HX.and_right_comm, ksR_snoc, hkR, HX.and_assoc R1]) ?_
    refine node_spush rfl rfl sa sc ds e' 3 (by intros; kernel_rfl) (by intros; kernel_rfl) rfl (by rw [ee']; intros; kernel_rfl) haps2 (by omega) (by intros; kernel_rfl) (by kernel_rfl) (by kernel_rfl) (by intros; kernel_rfl) ?_
    intro sa' sc' hap'
    refine again_V ⟨[((v : Nat) : Int), ((j + 1 : Nat) : Int), ν 0, ν 1, r0, r1, r2, r3, r4, r5, r6, r7, r8, r9, r10, r11, r12, r13, r14, r15], [], [], [M.length, mc, (ds ++ [e']).length, sc'], [ma, sa']⟩ rfl (fun ids => Eq.trans (b := ⟨[((v : Nat) : Int), IntKind.i64.wrap ((j : Int) + 1), ν 0, ν 1, r0, r1, r2, r3, r4, r5, r6, r7, r8, r9, r10, r11, r12, r13, r14, r15], [], [], [M.length, mc, ds.length + 1, sc'], [ma, sa']⟩) (by kernel_rfl) (by rw [hwj, hl2])) _ (fun w2 ids hf => ⟨hf.x, hf.sep⟩) ⟨⟨j + 1, sa', sc', ds ++ [e'], hlt, ?_, hdj.snoc (fun z hz hF => ?_) (fun z h1 h2 hF => (hap' z ⟨h1, h2⟩).2 (.inr hF)), ?_, fun z hz => ⟨(hap' z hz).1, fun y => (hap' z hz).2 (.inl y)⟩, by rw [hse]; omega, by rw [hse]; rfl, rfl⟩, ?_⟩
    · rw [List.map_append, hdm]
      unfold sesLW
      rw [range_snoc, ← eu]
      congr 1
      rw [ee', el, ekn]; rfl
    · rw [hkR] at hz
      exact (hapj z hz).2 (hTs z (.inr (.inl hF)))
    · intro z hz
      rcases hsn z hz with y | y
      · exact hapk z y
      · exact ⟨(hapj z y).1, fun h => (hapj z y).2 (hTs z (.inl h))⟩
    · show sn - (((j + 1 : Nat) : Int)).toNat < sn - ((j : Int)).toNat
      omega
end Go.Proofs.Ytfjiolgdcphjhaa

namespace Go.Proofs.Ytfjiolgdcphjhaa
open Go.ChangeShapes Go.WideShapes Go.ChangeAt Go.RowKit Go.Syn Go.Eng
set_option linter.unusedVariables false
set_option linter.unusedSimpArgs false
set_option maxRecDepth 100000
section
variable {C : Cfg} {ρ : Env} {pre : List Nat} {hx : HX} {L : Stack} {m m' : Mem} {args : List SV} {r : SV} {t : Tree}
theorem node_nd {f : Nat} {bs : List Int} (AS : List Nat → Array Value) (vs : Option Addr → Nat → Vals) (hargs : ∀ ids, (args.map (SV.den ρ ids)).toArray = AS ids) (hcall : ∀ ids w, pre <+: ids → Facts C m ρ ids hx w → Calls C.P f (AS ids) w (NewD w id bs))
    (hr : ∀ a' c' ids, r.den (ρ.add (vs a' c')) ids = .slice a' bs.length c') (hhp : m'.hp = m.hp) (hfit : hpFits m.c m.hp.length m.hp = true) (hc : ∀ a' c', (ρ.add (vs a' c')).cnt = m'.c) (h1 : ∀ a' c' v, v ∈ (vs a' c').v → v.oneCell' = true)
    (h : ∀ a' c', (∀ k, (HX.cl a' (bcells bs)).F k → C.W.heap.size ≤ k ∧ ¬ hx.F k) → t.holds C (ρ.add (vs a' c')) pre (hx.and (HX.cl a' (bcells bs))) L) : (Tree.call f args m r m' t).holds C ρ pre hx L := by
  refine node_out AS (fun u hy => ∃ a' c', u = vs a' c' ∧ hy = HX.cl a' (bcells bs)) hargs (fun ids w hp hf => ?_) hhp hfit ?_ ?_
  · refine (hcall ids w hp hf).mono ?_
    rintro e w' ⟨a', c', rfl, hX, hge, _, hb⟩
    exact ⟨_, _, ⟨a', c', rfl, rfl⟩, by rw [hr]; rfl, hX, fun k hk => ⟨by obtain ⟨hne, rfl⟩ := hk; exact hge (fun q => hne (by rw [q]; rfl)), cl_sep hX k hk⟩, hb⟩
  · rintro u hy ⟨a', c', rfl, rfl⟩
    exact ⟨hc _ _, h1 _ _⟩
  · rintro u hy ⟨a', c', rfl, rfl⟩ hfr
    exact h a' c' hfr
end
theorem u8_wf {k : Int} (h : (Lit.int .u8 k).wf = true) : 0 ≤ k ∧ k < 256 := by
  simp [Lit.wf] at h
  have h1 := h.1
  have h2 := h.2
  change (0 : Int) ≤ k at h1
  change k ≤ 255 at h2
  omega
theorem opn_bytes {w : World} (ds : List Dat) (hds : ∀ d ∈ ds, d.In Try.prog w 5) : ∃ bs : List Int, bs.length = ds.length ∧ Dat.cellsAll ds = bcells bs ∧ Byt bs := by
  obtain ⟨bs, rfl, ho⟩ := list_map_of (Dat.int .u8) (fun x => 0 ≤ x ∧ x < 256) ds (fun d hd => by
    obtain ⟨k0, rfl, hk⟩ := in_int Try.underlying5 (hds d hd)
    exact ⟨k0, rfl, u8_wf hk⟩)
  refine ⟨bs, by rw [List.length_map], ?_, ho⟩
  clear hds ho
  induction bs with
  | nil => rfl
  | cons x r ih => rw [List.map_cons, bcells, List.map_cons, ← bcells, ← ih]; rfl

theorem opn_kp2 {w : World} {d : Dat} (h : d.In Try.prog w 116) : ∃ k : KpD, d = kpDat k ∧ (I64 k.re ∧ I64 k.im) := by
  obtain ⟨ds, rfl, g⟩ := in_struct Try.underlying116 h
  obtain ⟨d0, r0, rfl, h0, g0⟩ := inEach_cons g
  obtain ⟨d1, r1, rfl, h1, g1⟩ := inEach_cons g0
  obtain rfl := inEach_nil g1
  obtain ⟨es, rfl, f⟩ := in_struct Try.underlying54 h1
  obtain ⟨e0, s0, rfl, k0, f1⟩ := inEach_cons f
  obtain ⟨e1, s1, rfl, k1, f2⟩ := inEach_cons f1
  obtain ⟨e2, s2, rfl, k2, f3⟩ := inEach_cons f2
  obtain rfl := inEach_nil f3
  obtain ⟨x0, rfl⟩ := opn_i h0
  obtain ⟨y0, rfl⟩ := opn_i k0
  obtain ⟨y1, rfl, z1⟩ := opn_int k1
  obtain ⟨y2, rfl, z2⟩ := opn_int k2
  exact ⟨⟨x0, y0, y1, y2⟩, rfl, z1, z2⟩
theorem opn_se2 {w : World} {d : Dat} (h : d.In Try.prog w 114) : ∃ e : SE, d = seDat e ∧ (Cells w e.a (kcells e.s.kept) ∧ e.s.kept.length * 32 ≤ 140737488351232 ∧ ∀ k ∈ e.s.kept, I64 k.re ∧ I64 k.im) := by
  obtain ⟨ds, rfl, g⟩ := in_struct Try.underlying114 h
  obtain ⟨d0, r0, rfl, h0, g0⟩ := inEach_cons g
  obtain ⟨d1, r1, rfl, h1, g1⟩ := inEach_cons g0
  obtain ⟨d2, r2, rfl, h2, g2⟩ := inEach_cons g1
  obtain rfl := inEach_nil g2
  obtain ⟨x0, rfl⟩ := opn_i h0
  obtain ⟨x1, rfl⟩ := opn_i h1
  obtain ⟨a, cap, es, rfl, q1, q2, q3, q4, q5⟩ := in_slice Try.underlying112 h2
  obtain ⟨l, rfl, hl⟩ := list_map_of kpDat (fun k => I64 k.re ∧ I64 k.im) es fun d hd => opn_kp2 (q5 d hd)
  rw [List.length_map] at q3 ⊢
  rw [kp_cells] at q4
  have hb : Try.prog.bytesOf 116 = 32 := by kernel_rfl
  have hr : reachBytes = 140737488351232 := by kernel_rfl
  rw [hb, hr] at q3
  exact ⟨⟨⟨x0, x1, l⟩, a, cap⟩, rfl, q4, q3, hl⟩
theorem opn_im2 {w : World} {d : Dat} (h : d.In Try.prog w 28) : ∃ (I : Im) (a1 : Option Addr) (c1 : Nat) (a2 : Option Addr) (c2 : Nat) (es : List SE), d.cells = imC I a1 c1 a2 c2 ∧ ImAt w I a1 a2 es ∧ ImBig I ∧ KF I.tb := by
  obtain ⟨ds, rfl, g⟩ := in_struct Try.underlying28 h
  obtain ⟨d0, r0, rfl, h0, g0⟩ := inEach_cons g
  obtain ⟨d1, r1, rfl, h1, g1⟩ := inEach_cons g0
  obtain ⟨d2, r2, rfl, h2, g2⟩ := inEach_cons g1
  obtain ⟨d3, r3, rfl, h3, g3⟩ := inEach_cons g2
  obtain ⟨d4, r4, rfl, h4, g4⟩ := inEach_cons g3
  obtain rfl := inEach_nil g4
  obtain ⟨x0, rfl⟩ := opn_i h0
  obtain ⟨x2, rfl, hx2⟩ := opn_int h2
  obtain ⟨a1, c1, ms, rfl, q1, q2, q3, q4, q5⟩ := in_slice Try.underlying22 h1
  obtain ⟨mem, rfl, hmem⟩ := list_map_of (fun n => Dat.int .i64 n) (fun n => I64 n) ms fun d hd => opn_int (q5 d hd)
  obtain ⟨rs, rfl, p1, p2⟩ := in_array Try.underlying25 h3
  obtain ⟨rl, rfl, _⟩ := list_map_of rgDat (fun _ => True) rs fun d hd => opn_rg (p2 d hd)
  rw [List.length_map] at p1
  obtain ⟨r0, r1, r2, r3, r4, r5, r6, r7, rfl⟩ := list8 rl p1
  obtain ⟨a2, c2, ss, rfl, t1, t2, t3, t4, t5⟩ := in_slice Try.underlying26 h4
  obtain ⟨es, rfl, hes⟩ := list_map_of seDat (fun e => Cells w e.a (kcells e.s.kept) ∧ e.s.kept.length * 32 ≤ 140737488351232 ∧ ∀ k ∈ e.s.kept, I64 k.re ∧ I64 k.im) ss fun d hd => opn_se2 (t5 d hd)
  rw [List.length_map] at q3 t3
  rw [dat_ints] at q4
  rw [sedat_cells] at t4
  have hb1 : Try.prog.bytesOf 3 = 8 := by kernel_rfl
  have hb2 : Try.prog.bytesOf 114 = 40 := by kernel_rfl
  have hr : reachBytes = 140737488351232 := by kernel_rfl
  rw [hb1, hr] at q3
  rw [hb2, hr] at t3
  refine ⟨⟨x0, mem, x2, [r0.1, r0.2, r1.1, r1.2, r2.1, r2.2, r3.1, r3.2, r4.1, r4.2, r5.1, r5.2, r6.1, r6.2, r7.1, r7.2], es.map SE.s⟩, a1, c1, a2, c2, es, ?_, ⟨rfl, Ints.of_cells (show mem.length ≤ _ by omega) hmem q4, ⟨t4, fun e he => (hes e he).1⟩, rfl⟩, ⟨hmem, q3, rfl, by rw [List.length_map]; exact t3, fun s hs => ?_⟩, fun s hs k hk => ?_⟩
  · show [Value.int .i64 x0] ++ _ = _
    unfold imC
    rw [List.length_map, List.length_map, List.length_map]
    rfl
  · obtain ⟨e, he, rfl⟩ := List.mem_map.1 hs
    exact (hes e he).2.1
  · obtain ⟨e, he, rfl⟩ := List.mem_map.1 hs
    exact (hes e he).2.2 k hk
theorem xencode_bad (I : Im) (a1 : Option Addr) (c1 : Nat) (a2 : Option Addr) (c2 : Nat) (es : List SE) (w : World) (H : ImAt w I a1 a2 es) (hl : es.length ≤ 4611686018427387904) (hv : validI I = false) : Calls Try.prog 25 #[imV I a1 c1 a2 c2] w (NewO w (fun v => .tuple #[v, .int .i64 44]) []) := by
  refine calls_at (tab_ok _) Try.func25 rfl tXEnc (ρ := ⟨imI I, [], [], [I.mem.length, c1, I.tb.length, c2], [a1, a2]⟩) (ids := []) (hx := HX.nil) (by kernel_rfl) (Facts.initP rfl oneNil) ?_
  have keep : ∀ {m : Mem} {ρ : Env} {ids : List Nat} {hx : HX} {w2 : World} {R : Ending → World → Prop}, Facts ⟨Try.prog, w, fun _ => False, R⟩ m ρ ids hx w2 → ImAt w2 I a1 a2 es := fun hf => H.keep (fun k hk => hf.chg.block k hk (fun q => q))
  refine node_P ⟨[], [validI I], [], [], []⟩ #[imV I a1 c1 a2 c2] (.bool (validI I)) (by intros; kernel_rfl) (by intros; kernel_rfl) (by kernel_rfl) (by kernel_rfl) (by kernel_rfl) oneNil (fun ids w2 hp hf => xvalid_any I a1 c1 a2 c2 es w2 (keep hf) hl) ?_
  refine br_T (!validI I) (by kernel_rfl) (by rw [hv]; rfl) ?_
  intro ids w2 hp hf
  exact ⟨none, 0, by kernel_rfl, HX.rw_nil _ _ _ _, fun k h => absurd rfl h, hf.chg.below⟩
theorem decI_big {bs : List Int} (hb : Byt bs) : ImBig (decI bs) := by
  unfold decI
  split
  · rename_i h
    exact imOk.big ⟨(dec_ok hb h).1, rfl, nuL_fit (rds bs hb).fit _ _⟩
  · exact im0_big
set_option maxHeartbeats 8000000 in
theorem codes20_walk (I : Im) (a1 : Option Addr) (c1 : Nat) (a2 : Option Addr) (c2 : Nat) (es0 : List SE) (a : Option Addr) (cap : Nat) (bs : List Int) (w : World) (H0 : ImAt w I a1 a2 es0) (B0 : ImBig I) (hKF : KF I.tb) (H : Cells w a (bcells bs)) (hb : Byt bs) (hcap : bs.length ≤ cap) (hl : bs.length ≤ 1048576) :
    Calls Try.prog 7 #[imV I a1 c1 a2 c2, .slice a bs.length cap] w (PureAt w (.bool true)) := by
  refine calls_at (tab_ok _) Try.func7 rfl tXCodes (ρ := ⟨imI I, [], [], [I.mem.length, c1, I.tb.length, c2, bs.length, cap], [a1, a2, a]⟩) (ids := []) (hx := HX.nil) (by kernel_rfl) (Facts.initP rfl oneNil) ?_
  have keep0 : ∀ {m : Mem} {ρ : Env} {ids : List Nat} {hx : HX} {w2 : World} {R : Ending → World → Prop}, Facts ⟨Try.prog, w, fun _ => False, R⟩ m ρ ids hx w2 → ImAt w2 I a1 a2 es0 := fun hf => H0.keep (fun k hk => hf.chg.block k hk (fun q => q))
  have keepB : ∀ {m : Mem} {ρ : Env} {ids : List Nat} {hx : HX} {w2 : World} {R : Ending → World → Prop}, Facts ⟨Try.prog, w, fun _ => False, R⟩ m ρ ids hx w2 → Cells w2 a (bcells bs) := fun hf => cl_stay H (fun k hk => hf.chg.block k hk (fun q => q))
  refine node_P ⟨[], [true], [], [], []⟩ #[] (.bool true) (by intros; kernel_rfl) (by intros; kernel_rfl) (by kernel_rfl) (by kernel_rfl) (by kernel_rfl) oneNil (fun ids w2 hp hf => head20_any w2) ?_
  refine br_f (by kernel_rfl) ?_
  have hk0 := B0.kept' H0.tb
  have hl0 : es0.length * 40 ≤ 140737488351232 := by rw [H0.len]; exact B0.tb
  refine node_im (V := id) (I := I) (fun ids => #[imV I a1 c1 a2 c2]) (fun x1 y1 x2 y2 => ⟨imI I, [], [], [I.mem.length, y1, I.tb.length, y2], [x1, x2]⟩) (by intros; kernel_rfl) (fun ids w2 hp hf => rcopy20_any I a1 c1 a2 c2 es0 w2 (keep0 hf) (by have := B0.len; omega) hl0 hk0) (by intros; kernel_rfl) (by kernel_rfl) (by kernel_rfl) (by intros; kernel_rfl) (fun _ _ _ _ => oneNil) ?_
  intro x1 y1 x2 y2 es1 hm1 hdj1 hsm1 had1 hn1
  have hl1 : es1.length ≤ 4611686018427387904 := by rw [es_len hm1]; have := B0.tb; omega
  have at1 : ∀ {w2 : World} {hx : HX}, (hx.and (imX I x1 x2 y2 es1)).X w2 → ImAt w2 I x1 x2 es1 := fun h => B0.at_ hm1 (imR_of h.2).1
  obtain ⟨J, eJ⟩ : ∃ J, J = decI bs := ⟨_, rfl⟩
  obtain ⟨E, eE⟩ : ∃ E, E = decX bs := ⟨_, rfl⟩
  have bJ : ImBig J := by rw [eJ]; exact decI_big hb
  have bJt := bJ.tb
  have bJl := bJ.len
  rcases Bool.eq_false_or_eq_true (validI I) with hv | hv
  case' inl =>
    have hV : VI I := (validI_iff I).1 hv
    have hN : NFit I := NFit.of ⟨hV, B0.reg, B0.mem⟩ hKF
    obtain ⟨xb, exb⟩ : ∃ xb, xb = intsL (numsI I) := ⟨_, rfl⟩
    have lxb : xb.length ≤ 9 * 600 := by
      have h1 := intsL_len hN
      have h2 := nums_len hV
      rw [exb]; omega
    have hX0 : encX I = 0 := by unfold encX; rw [if_pos hv]
    have hXB : encB I = xb := by unfold encB; rw [if_pos hv, exb]
    refine node_newi (V := fun v => .tuple #[v, .int .i64 0]) (bs := xb) (fun ids => #[imV I x1 y1 x2 y2]) (fun a' c' => ⟨[0], [], [], [xb.length, c'], [a']⟩) (by intros; kernel_rfl) (fun ids w3 hp hf => by
      have := xencode_any I x1 y1 x2 y2 es1 w3 (at1 hf.x) hl1 hN
      rw [hX0, hXB] at this
      exact this) (by intros; kernel_rfl) (by kernel_rfl) (by kernel_rfl) (by intros; kernel_rfl) (fun _ _ => oneNil) ?_
    intro s1 s2 hs1 hs2
    refine node_P ⟨[], [true], [], [], []⟩ #[imV I a1 c1 a2 c2] (.bool true) (by intros; kernel_rfl) (by intros; kernel_rfl) (by kernel_rfl) (by kernel_rfl) (by kernel_rfl) oneNil (fun ids w3 hp hf => by
      have := rvalid20_any I a1 c1 a2 c2 es0 w3 (keep0 hf)
      rw [hv] at this
      exact this) ?_
    refine br_f (by kernel_rfl) ?_
    refine br_T ((0 : Int) == 0) (by kernel_rfl) (by decide) ?_
    refine node_newi (V := id) (bs := xb) (fun ids => #[imV I a1 c1 a2 c2]) (fun a' c' => ⟨[], [], [], [xb.length, c'], [a']⟩) (by intros; kernel_rfl) (fun ids w3 hp hf => by rw [exb]; exact rbytes20_any I a1 c1 a2 c2 es0 w3 (keep0 hf) hV hN) (by intros; kernel_rfl) (by kernel_rfl) (by kernel_rfl) (by intros; kernel_rfl) (fun _ _ => oneNil) ?_
    intro s3 s4 hs3 hs4
    refine node_P ⟨[], [true], [], [], []⟩ #[.slice s1 xb.length s2, .slice s3 xb.length s4] (.bool true) (by intros; kernel_rfl) (by intros; kernel_rfl) (by kernel_rfl) (by kernel_rfl) (by kernel_rfl) oneNil (fun ids w3 hp hf => by
      have := sameb_any s1 s2 xb s3 s4 xb w3 (frow_cells hf.x.1.2) (frow_cells hf.x.2) (by omega)
      simp only [decide_true] at this
      exact this) ?_
    refine br_f (by kernel_rfl) ?_
    refine br_F ((0 : Int) != 0) (by kernel_rfl) (by decide) ?_
  case' inr =>
    refine node_newi (V := fun v => .tuple #[v, .int .i64 44]) (bs := []) (fun ids => #[imV I x1 y1 x2 y2]) (fun a' c' => ⟨[44], [], [], [0, c'], [a']⟩) (by intros; kernel_rfl) (fun ids w3 hp hf => xencode_bad I x1 y1 x2 y2 es1 w3 (at1 hf.x) hl1 hv) (by intros; kernel_rfl) (by kernel_rfl) (by kernel_rfl) (by intros; kernel_rfl) (fun _ _ => oneNil) ?_
    intro s1 s2 hs1 hs2
    refine node_P ⟨[], [false], [], [], []⟩ #[imV I a1 c1 a2 c2] (.bool false) (by intros; kernel_rfl) (by intros; kernel_rfl) (by kernel_rfl) (by kernel_rfl) (by kernel_rfl) oneNil (fun ids w3 hp hf => by
      have := rvalid20_any I a1 c1 a2 c2 es0 w3 (keep0 hf)
      rw [hv] at this
      exact this) ?_
    refine br_f (by kernel_rfl) ?_
    refine br_F ((44 : Int) == 0) (by kernel_rfl) (by decide) ?_
    refine br_T ((44 : Int) != 0) (by kernel_rfl) (by decide) ?_
    refine br_F ((44 : Int) != 44) (by kernel_rfl) (by decide) ?_
    refine br_F ((0 : Int) != 0) (by kernel_rfl) (by decide) ?_
  all_goals
    refine node_nd (bs := bs) (fun ids => #[.slice a bs.length cap]) (fun a' c' => ⟨[], [], [], [bs.length, c'], [a']⟩) (by intros; kernel_rfl) (fun ids w3 hp hf => copyb_new a cap bs w3 (keepB hf) (by omega)) (by intros; kernel_rfl) (by kernel_rfl) (by kernel_rfl) (by intros; kernel_rfl) (fun _ _ => oneNil) ?_
    intro m1 n1 hmf
    refine node_im (V := fun v => .tuple #[v, .int .i64 E]) (I := J) (fun ids => #[.slice a bs.length cap]) (fun x1 y1 x2 y2 => ⟨imI J ++ [E], [], [], [J.mem.length, y1, J.tb.length, y2], [x1, x2]⟩) (by intros; kernel_rfl) (fun ids w3 hp hf => by
      have := rdec20_any a cap bs w3 ⟨keepB hf, hb, by omega⟩ hcap hl
      rw [← eE, ← eJ] at this
      exact this) (by intros; kernel_rfl) (by kernel_rfl) (by kernel_rfl) (by intros; kernel_rfl) (fun _ _ _ _ => oneNil) ?_
    intro g1 h1 g2 h2 fs1 hp1 hq1 hr1 ht1 hu1
    refine node_im (V := fun v => .tuple #[v, .int .i64 E]) (I := J) (fun ids => #[.slice m1 bs.length n1]) (fun x1 y1 x2 y2 => ⟨imI J ++ [E], [], [], [J.mem.length, y1, J.tb.length, y2], [x1, x2]⟩) (by intros; kernel_rfl) (fun ids w3 hp hf => by
      have := xdecode_any m1 n1 bs w3 hf.x.1.2 hb (by omega)
      rw [← eE, ← eJ] at this
      exact this) (by intros; kernel_rfl) (by kernel_rfl) (by kernel_rfl) (by intros; kernel_rfl) (fun _ _ _ _ => oneNil) ?_
    intro k1 l1 k2 l2 fs2 hp2 hq2 hr2 ht2 hu2
    have e1l := es_len hp1
    have e2l := es_len hp2
    refine br_T (E == E) (by kernel_rfl) (by simp) ?_
    refine node_P ⟨[], [true], [], [], []⟩ #[imV J k1 l1 k2 l2, imV J g1 h1 g2 h2] (.bool true) (by intros; kernel_rfl) (by intros; kernel_rfl) (by kernel_rfl) (by kernel_rfl) (by kernel_rfl) oneNil (fun ids w3 hp hf => rsame20_any J k1 l1 k2 l2 fs2 g1 h1 g2 h2 fs1 w3 (bJ.at_ hp2 (imR_of hf.x.2).1) (bJ.at_ hp1 (imR_of hf.x.1.2).1) (by omega) (by omega) (fun e he => by have := bJ.kept' hp2 e he; omega)) ?_
    refine br_t (by kernel_rfl) ?_
    refine node_P ⟨[], [true], [], [], []⟩ #[.slice m1 bs.length n1, .slice a bs.length cap] (.bool true) (by intros; kernel_rfl) (by intros; kernel_rfl) (by kernel_rfl) (by kernel_rfl) (by kernel_rfl) oneNil (fun ids w3 hp hf => by
      have := sameb_any m1 n1 bs a cap bs w3 hf.x.1.1.2 (keepB hf) (by omega)
      simp only [decide_true] at this
      exact this) ?_
    exact pure_done (fun ids => by kernel_rfl)
theorem im_arg {d : Dat} {I : Im} {a1 : Option Addr} {c1 : Nat} {a2 : Option Addr} {c2 : Nat} (h : d.cells = imC I a1 c1 a2 c2) : Value.agg d.cells.toArray = imV I a1 c1 a2 c2 := by rw [h]; rfl
theorem codes20_args (x : Dat) (a : Option Addr) (cap : Nat) (ds : List Dat) (w : World) (hx : x.In Try.prog w 28) (hC : Cells w a (Dat.cellsAll ds)) (hds : ∀ d ∈ ds, d.In Try.prog w 5) (_ : ds.length ≤ 9223372036854775807) (_ : ds.length * Try.prog.bytesOf 5 ≤ reachBytes) (hc : ds.length ≤ cap) (hl : ds.length ≤ 1048576) :
    Calls Try.prog 7 #[.agg x.cells.toArray, .slice a ds.length cap] w fun e w' => e = .returned (.bool true) ∧ Below w.heap.size w w' := by
  obtain ⟨I, a1, c1, a2, c2, es, hcl, hat, hbig, hkf⟩ := opn_im2 hx
  obtain ⟨bs, l1, e1, hby⟩ := opn_bytes ds hds
  rw [im_arg hcl, ← l1]
  exact codes20_walk I a1 c1 a2 c2 es a cap bs w hat hbig hkf (e1 ▸ hC) hby (by omega) (by omega)
end Go.Proofs.Ytfjiolgdcphjhaa
