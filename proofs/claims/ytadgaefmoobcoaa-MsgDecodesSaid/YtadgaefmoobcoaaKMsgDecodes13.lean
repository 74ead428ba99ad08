/- Part 13 of the texts of a proof about the given program: what the statement's proof needs of them. -/
import Derived.Test.YtadgaefmoobcoaaKMsgDecodes12
namespace Go.Proofs.Ytadgaefmoobcoaa
open Go.ChangeShapes Go.WideShapes Go.ChangeAt Go.RowKit Go.Syn Go.Eng
set_option linter.unusedVariables false
set_option linter.unusedSimpArgs false
set_option maxRecDepth 100000
section
variable {C : Cfg} {ρ : Env} {pre : List Nat} {hx : HX} {L : Stack} {m m' : Mem} {args : List SV} {r : SV} {t : Tree} {a : Option Addr} {cap : Nat} {bs : List Int} {ix ix' : Nat} {bad bad' : Int}
structure RdOk (hx : HX) (a : Option Addr) (cap : Nat) (bs : List Int) : Prop where
  cl : ∀ w, hx.X w → Cells w a (bcells bs)
  fr : ∀ k, (HX.cl a (bcells bs)).F k → hx.F k
  byt : Byt bs
  len : bs.length ≤ 140737488355328
  cap : bs.length ≤ cap
theorem rd_at {ids : List Nat} {w : World} {cs : List LV} (n : Nat) (hok : RdOk hx a cap bs) (hix : ix ≤ bs.length) (hf : Facts C m ρ ids hx w) (hn : m.hp[n]? = some (128, cs)) (hcs : ∀ ids, cellsDen ρ ids cs = rcells a cap bs ix bad) : RdAt w (idAt ids n) a cap bs ix bad := by
  have hlt : n < m.hp.length := by
    rcases Nat.lt_or_ge n m.hp.length with q | q
    · exact q
    · rw [List.getElem?_eq_none q] at hn; cases hn
  have hmem := idAt_mem (ids := ids) (n := n) (hf.len ▸ hlt)
  have hb := hf.blk n _ _ hn
  rw [hcs] at hb
  exact ⟨hb, hok.cl w hf.x, fun hne e => (hf.sep _ (hok.fr _ ⟨fun q => hne (bcells_nil.1 q), rfl⟩)).2 (e ▸ hmem), hok.byt, hok.len, hok.cap, hix⟩
theorem node_rd {fn : Nat} {cs : List LV} {V : Value} (n : Nat) (vs : Vals) (AS : Nat → Array Value) (hok : RdOk hx a cap bs) (hix : ix ≤ bs.length) (hP : C.P = Try.prog) (hn : m.hp[n]? = some (128, cs)) (hcs : ∀ ids, cellsDen ρ ids cs = rcells a cap bs ix bad)
    (hargs : ∀ ids, (args.map (SV.den ρ ids)).toArray = AS (idAt ids n)) (hcall : ∀ w b, RdAt w b a cap bs ix bad → Calls Try.prog fn (AS b) w (At1 w b 128 V (rcells a cap bs ix' bad')))
    (cs' : List LV) (hhp : m'.hp = m.hp.set n (128, cs')) (hcs' : ∀ ids, cellsDen (ρ.add vs) ids cs' = rcells a cap bs ix' bad') (hr : ∀ ids, r.den (ρ.add vs) ids = V) (hfit : hpFits m.c m.hp.length m.hp = true) (hc : (ρ.add vs).cnt = m'.c) (h1 : ∀ v, v ∈ vs.v → v.oneCell' = true)
    (h : t.holds C (ρ.add vs) pre hx L) : (Tree.call fn args m r m' t).holds C ρ pre hx L := by
  refine node_method n 128 cs cs' vs hn hhp hfit hc h1 (fun ids w hp hf hb => ?_) h
  rw [hP, hargs, hr, hcs']
  exact (hcall w _ (rd_at n hok hix hf hn hcs)).mono fun e w' h => ⟨h.1, h.2.1, h.2.2⟩
end
theorem RdAt.ok {w : World} {nb : Nat} {a : Option Addr} {cap : Nat} {bs : List Int} {ix : Nat} {bad : Int} (H : RdAt w nb a cap bs ix bad) : RdOk (HX.cl a (bcells bs)) a cap bs := ⟨fun _ h => h, fun _ h => h, H.byt, H.len, H.cap⟩
theorem RdAt.sepc {w : World} {nb : Nat} {a : Option Addr} {cap : Nat} {bs : List Int} {ix : Nat} {bad : Int} (H : RdAt w nb a cap bs ix bad) : ∀ k, (HX.cl a (bcells bs)).F k → k < w.heap.size ∧ k ≠ nb := fun k hk => ⟨cl_sep H.mem k hk, fun e => by
  obtain ⟨h1, h2⟩ := hk
  exact H.ne (fun q => h1 (by rw [q]; rfl)) (h2 ▸ e)⟩
theorem rint_any (nb : Nat) (a : Option Addr) (cap : Nat) (bs : List Int) (ix : Nat) (bad : Int) (w : World) (H : RdAt w nb a cap bs ix bad) :
    Calls Try.prog 84 #[.pointer (some ⟨nb, 0, none⟩)] w (At1 w nb 128 (.int .i64 (unfoldN (readN (bs.drop ix) bad).2.2)) (rcells a cap bs (ixN bs ix bad) (readN (bs.drop ix) bad).2.1)) := by
  have hu := readN_u64 (l := bs.drop ix) (fun b q => H.byt b (List.mem_of_mem_drop q)) bad
  refine calls_at (tab_ok _) Try.func84 rfl tRInt (ρ := ⟨[(ix : Int), bad], [], [], [bs.length, cap], [a]⟩) (ids := [nb]) (hx := HX.cl a (bcells bs)) (M := fun x => x = nb) rfl (Facts.initx rfl oneNil H.blk rfl rfl H.mem H.sepc) ?_
  refine node_rd 0 ⟨[(ixN bs ix bad : Int), (readN (bs.drop ix) bad).2.1, ((readN (bs.drop ix) bad).2.2 : Int)], [], [], [bs.length, cap], [a]⟩ (fun b => #[.pointer (some ⟨b, 0, none⟩)]) H.ok H.ix rfl rfl (fun _ => rfl) (fun _ => rfl) (fun w b h => rnum_any b a cap bs ix bad w h) [.sl 1 (.var 2) (.var 3), .int .i64 (.var 2), .int .i64 (.var 3)] rfl (fun _ => rfl) (fun _ => rfl) rfl rfl oneNil ?_
  refine node_val ⟨[unfoldN (readN (bs.drop ix) bad).2.2], [], [], [], []⟩ (fun w => unfold_any hu w) (fun _ => rfl) (fun _ => rfl) rfl rfl rfl oneNil ?_
  exact at1_done (fun _ => rfl) (fun _ => rfl)
theorem rcount_any (nb : Nat) (a : Option Addr) (cap : Nat) (bs : List Int) (ix : Nat) (bad most : Int) (hm : I64 most) (w : World) (H : RdAt w nb a cap bs ix bad) :
    Calls Try.prog 59 #[.pointer (some ⟨nb, 0, none⟩), .int .i64 most] w (At1 w nb 128 (.int .i64 ((readC most (bs.drop ix) bad).2.2 : Int)) (rcells a cap bs (ixN bs ix bad) (readC most (bs.drop ix) bad).2.1)) := by
  have hu := readN_u64 (l := bs.drop ix) (fun b q => H.byt b (List.mem_of_mem_drop q)) bad
  unfold I64 at hm
  refine calls_at (tab_ok _) Try.func59 rfl tRCount (ρ := ⟨[(ix : Int), bad, most], [], [], [bs.length, cap], [a]⟩) (ids := [nb]) (hx := HX.cl a (bcells bs)) (M := fun x => x = nb) rfl (Facts.initx rfl oneNil H.blk rfl rfl H.mem H.sepc) ?_
  refine node_rd 0 ⟨[(ixN bs ix bad : Int), (readN (bs.drop ix) bad).2.1, ((readN (bs.drop ix) bad).2.2 : Int)], [], [], [bs.length, cap], [a]⟩ (fun b => #[.pointer (some ⟨b, 0, none⟩)]) H.ok H.ix rfl rfl (fun _ => rfl) (fun _ => rfl) (fun w b h => rnum_any b a cap bs ix bad w h) [.sl 1 (.var 2) (.var 3), .int .i64 (.var 3), .int .i64 (.var 4)] rfl (fun _ => rfl) (fun _ => rfl) rfl rfl oneNil ?_
  have hw : IntKind.u64.wrap (max 0 most) = ((max 0 most).toNat : Int) := by
    rw [IntWalk.u64_in _ (by omega)]; omega
  by_cases hc : (max 0 most).toNat < (readN (bs.drop ix) bad).2.2
  · refine br_t (show decide (((readN (bs.drop ix) bad).2.2 : Int) > IntKind.u64.wrap (max 0 most)) = true by rw [hw]; exact decide_eq_true (by omega)) ?_
    have e : readC most (bs.drop ix) bad = ((readN (bs.drop ix) bad).1, 12, 0) := by unfold readC; dsimp only; rw [if_pos hc]
    rw [e]
    exact at1_done (fun _ => rfl) (fun _ => rfl)
  · refine br_f (show decide (((readN (bs.drop ix) bad).2.2 : Int) > IntKind.u64.wrap (max 0 most)) = false by rw [hw]; exact decide_eq_false (by omega)) ?_
    have e : readC most (bs.drop ix) bad = readN (bs.drop ix) bad := by unfold readC; dsimp only; rw [if_neg hc]
    rw [e]
    refine at1_done (fun _ => ?_) (fun _ => rfl)
    show Value.int .i64 (IntKind.i64.wrap ((readN (bs.drop ix) bad).2.2 : Int)) = _
    rw [wrap_i64 (by omega)]
theorem rerr_any (nb : Nat) (a : Option Addr) (cap : Nat) (bs : List Int) (ix : Nat) (bad : Int) (w : World) (H : Blk w nb (rcells a cap bs ix bad) 128) : Calls Try.prog 60 #[.pointer (some ⟨nb, 0, none⟩)] w (PureAt w (.int .i64 bad)) := by
  refine calls_at (tab_ok _) Try.func60 rfl tRErr (ρ := ⟨[(ix : Int), bad], [], [], [bs.length, cap], [a]⟩) (ids := [nb]) (hx := HX.nil) (M := fun x => x = nb) rfl (Facts.initx rfl oneNil H rfl rfl trivial (fun k hk => hk.elim)) ?_
  intro ids w2 hp hf
  have e0 := hf.blkAt 0 rfl
  rw [idAt0 hp] at e0
  exact ⟨rfl, (hf.chg.same (e0.trans H.symm)).below⟩
def doneB (n ix : Nat) (bad : Int) : Int := if bad = 0 ∧ ix < n then 13 else bad
theorem rdone_any (nb : Nat) (a : Option Addr) (cap : Nat) (bs : List Int) (ix : Nat) (bad : Int) (w : World) (H : Blk w nb (rcells a cap bs ix bad) 128) : Calls Try.prog 62 #[.pointer (some ⟨nb, 0, none⟩)] w (At1 w nb 128 (.int .i64 (doneB bs.length ix bad)) (rcells a cap bs ix (doneB bs.length ix bad))) := by
  refine calls_at (tab_ok _) Try.func62 rfl tRDone (ρ := ⟨[(ix : Int), bad], [], [], [bs.length, cap], [a]⟩) (ids := [nb]) (hx := HX.nil) (M := fun x => x = nb) rfl (Facts.initx rfl oneNil H rfl rfl trivial (fun k hk => hk.elim)) ?_
  have step : ∀ {m m' : Mem} {ρ : Env} {cs : List LV} {t : Tree} {L : Stack} {r : SV} (bad' : Int), m.hp[0]? = some (128, cs) → (∀ ids, cellsDen ρ ids cs = rcells a cap bs ix bad') → m'.hp = m.hp → hpFits m.c m.hp.length m.hp = true → (ρ.add ⟨[bad'], [], [], [], []⟩).cnt = m'.c → (∀ ids, r.den (ρ.add ⟨[bad'], [], [], [], []⟩) ids = .int .i64 bad') → t.holds ⟨Try.prog, w, fun x => x = nb, At1 w nb 128 (.int .i64 (doneB bs.length ix bad)) (rcells a cap bs ix (doneB bs.length ix bad))⟩ (ρ.add ⟨[bad'], [], [], [], []⟩) [nb] HX.nil L →
      (Tree.call 60 [.lf (.ptr 0 0)] m r m' t).holds ⟨Try.prog, w, fun x => x = nb, At1 w nb 128 (.int .i64 (doneB bs.length ix bad)) (rcells a cap bs ix (doneB bs.length ix bad))⟩ ρ [nb] HX.nil L := by
    intro m m' ρ cs t L r bad' hn hcs hhp hfit hc hr h
    refine node_pure ⟨[bad'], [], [], [], []⟩ hhp hfit hc oneNil (fun ids w2 hp hf => ?_) h
    have hb := hf.blk 0 _ _ hn
    rw [hcs] at hb
    rw [hr]
    exact rerr_any (idAt ids 0) a cap bs ix bad' w2 hb
  by_cases h0 : bad = 0
  · subst h0
    refine br_t rfl ?_
    by_cases h1 : ix < bs.length
    · refine br_t (show decide ((ix : Int) < (bs.length : Int)) = true from decide_eq_true (by omega)) ?_
      have e : doneB bs.length ix 0 = 13 := if_pos ⟨rfl, h1⟩
      rw [e] at step ⊢
      exact step 13 rfl (fun _ => rfl) rfl rfl rfl (fun _ => rfl) (at1_done (fun _ => rfl) (fun _ => rfl))
    · refine br_f (show decide ((ix : Int) < (bs.length : Int)) = false from decide_eq_false (by omega)) ?_
      have e : doneB bs.length ix 0 = 0 := if_neg (fun q => h1 q.2)
      rw [e] at step ⊢
      exact step 0 rfl (fun _ => rfl) rfl rfl rfl (fun _ => rfl) (at1_done (fun _ => rfl) (fun _ => rfl))
  · refine br_f (show (bad == 0) = false by simpa using h0) ?_
    have e : doneB bs.length ix bad = bad := if_neg (fun q => h0 q.1)
    rw [e] at step ⊢
    exact step bad rfl (fun _ => rfl) rfl rfl rfl (fun _ => rfl) (at1_done (fun _ => rfl) (fun _ => rfl))
theorem rnew_any (a : Option Addr) (cap : Nat) (bs : List Int) (w : World) (H : Cells w a (bcells bs)) (hl : bs.length ≤ 140737488355328) : Calls Try.prog 58 #[.slice a bs.length cap] w (fun e w' => ∃ b a' c', e = .returned (.pointer (some ⟨b, 0, none⟩)) ∧ w.heap.size ≤ b ∧ Blk w' b (rcells a' c' bs 0 0) 128 ∧ (frow a' c' bs).X w' ∧ (∀ k, c' ≠ 0 → abk a' = some k → w.heap.size ≤ k ∧ k ≠ b) ∧ Below w.heap.size w w') := by
  refine calls_at (tab_ok _) Try.func58 rfl tRNew (ρ := ⟨[], [], [], [bs.length, cap], [a]⟩) (ids := []) (hx := HX.cl a (bcells bs)) rfl (Facts.initq rfl oneNil H (cl_sep H)) ?_
  refine node_appends (xs := []) rfl Try.underlying35 info_byte rfl (by decide) none 0 0 (fun _ => a) bs.length cap (bcells bs) (by simp [bcells_len]) (fun ids w _ _ => HX.rw_nil _ _ _ w) (fun ids w2 hp hf => hf.x) (bcells_one bs) (fun w h => ⟨h, fun _ q => q⟩) (fun k h => absurd rfl h) (fun k h => absurd rfl h) (fun k h => absurd rfl h) (by unfold maxLen; omega) (by omega) (by intros; kernel_rfl) (by intros; kernel_rfl) (by intros; kernel_rfl) rfl rfl (fun _ _ => rfl) ?_
  intro a' c' _ hd hw ids w2 hp hf
  have hX := hf.x.2
  rw [Nat.zero_add, List.nil_append] at hX
  have hmem := idAt_mem (ids := ids) (n := 0) (by rw [hf.len]; decide)
  have e0 := hf.blkAt 0 rfl
  refine ⟨idAt ids 0, a', c', rfl, (hf.own _ hmem).resolve_right (fun e => e), ?_, hX, fun k h1 h2 => ⟨?_, fun e => ?_⟩, hf.chg.below⟩
  · show w2.heap[idAt ids 0]? = _
    rw [e0]
    show some (Obj.cells (#[.slice a' (0 + bs.length) c', .int .i64 0, .int .i64 0]) 128 (0, 0)) = _
    rw [Nat.zero_add]; rfl
  · rcases hw k h1 h2 with q | q
    · exact absurd rfl q.1
    · exact q.1
  · have := (hf.sep k (.inr ⟨h1, h2⟩)).2
    exact this (e ▸ hmem)
def qV (a : Option Addr) (c : Nat) (r : List Int × Int × Nat) : Value := .tuple #[.agg #[.slice a r.1.length c, .int .i64 r.2.1], .int .u64 (r.2.2 : Int)]
def Left (a : Option Addr) (l : List Int) (a' : Option Addr) (l' : List Int) (c' : Nat) : Prop := (∀ w, Cells w a (bcells l) → Cells w a' (bcells l')) ∧ l'.length ≤ c' ∧ blk a' = blk a
theorem Left.refl {a : Option Addr} {l : List Int} {c : Nat} (h : l.length ≤ c) : Left a l a l c := ⟨fun _ h => h, h, rfl⟩
theorem Left.trans {a b c : Option Addr} {l m n : List Int} {x y : Nat} (h : Left a l b m x) (h2 : Left b m c n y) : Left a l c n y := ⟨fun w q => h2.1 w (h.1 w q), h2.2.1, h2.2.2.trans h.2.2⟩
def QI (ds : List Int) (j0 : Nat) (vs : Vals) (hx : HX) : Prop := ∃ k : Nat, k ≤ ds.length ∧ vs = ⟨[(valB (ds.take k) : Int), ((k + 1 : Nat) : Int)], [], [], [], []⟩ ∧ hx = HX.nil
theorem byte_step {u : Nat} {c : Int} (hu : u < 2 ^ 56) (hc : 0 ≤ c ∧ c < 256) : ifn .add .u64 (ifn .mul .u64 256 (u : Int)) (IntKind.u64.wrap c) = ((256 * u + c.toNat : Nat) : Int) := by
  have wr : ∀ x : Int, IntKind.u64.wrap x = x % 18446744073709551616 := fun x => rfl
  show IntKind.u64.wrap (IntKind.u64.wrap (256 * (u : Int)) + IntKind.u64.wrap c) = _
  rw [wr, wr, wr]; omega
theorem qnum_any (a : Option Addr) (cap : Nat) (l : List Int) (bad : Int) (w : World) (H : Cells w a (bcells l)) (hb : Byt l) (hl : l.length ≤ 140737488355328) (hcap : l.length ≤ cap) :
    Calls Try.prog 78 #[.agg #[.slice a l.length cap, .int .i64 bad]] w (fun e w' => ∃ a' c', e = .returned (qV a' c' (readN l bad)) ∧ Left a l a' (readN l bad).1 c' ∧ Below w.heap.size w w') := by
  refine calls_at (tab_ok _) Try.func78 rfl tQReadNum (ρ := ⟨[bad], [], [], [l.length, cap], [a]⟩) (ids := []) (hx := HX.nil) rfl (Facts.initP rfl oneNil) ?_
  have done : ∀ {v : SV} {m : Mem} {ρ : Env} {hx : HX} {L : Stack} {pre : List Nat} (bad' : Int), readN l bad = (l, bad', 0) → (∀ ids, v.den ρ ids = qV a cap (l, bad', 0)) → (Tree.done v m).holds ⟨Try.prog, w, fun _ => False, fun e w' => ∃ a' c', e = .returned (qV a' c' (readN l bad)) ∧ Left a l a' (readN l bad).1 c' ∧ Below w.heap.size w w'⟩ ρ pre hx L := fun bad' e hv ids w2 hp hf => ⟨a, cap, by rw [hv, e], by rw [e]; exact Left.refl hcap, hf.chg.below⟩
  by_cases h0 : bad = 0
  · subst h0
    refine br_f rfl ?_
    cases hcase : l with
    | nil =>
      subst hcase
      exact br_t rfl (done 10 rfl (fun _ => rfl))
    | cons n r =>
      rw [← hcase]
      have hlen : l.length = r.length + 1 := by rw [hcase, List.length_cons]
      refine br_f (show ((l.length : Int) == 0) = false by rw [hlen]; simp; omega) ?_
      have hn0 : l[0]? = some n := by rw [hcase]; rfl
      have hnb := hb n (by rw [hcase]; simp)
      obtain ⟨s1, c1⟩ := b_elt H hn0
      refine need_i ⟨s1, (show (0 : Int) ≤ 0 by omega), (show (0 : Int) < l.length by omega)⟩ ?_
      refine ⟨⟨[n], [], [], [], []⟩, fun ids => c1 _ (fun q => q), ⟨rfl, oneNil⟩, ?_⟩
      have hnw : IntKind.i64.wrap n = n := wrap_i64 (by omega)
      have hrd : readN l 0 = (if 8 < n then (l, 11, 0) else if r.length < n.toNat then (l, 10, 0) else if nlen (valB (r.take n.toNat)) ≠ n.toNat then (l, 11, 0) else (r.drop n.toNat, 0, valB (r.take n.toNat))) := by
        rw [hcase]; unfold readN; rw [if_neg (by simp)]
      by_cases h8 : 8 < n
      · refine br_t (show decide (IntKind.i64.wrap n > 8) = true by rw [hnw]; exact decide_eq_true h8) ?_
        rw [if_pos h8] at hrd
        exact done 11 hrd (fun _ => rfl)
      · refine br_f (show decide (IntKind.i64.wrap n > 8) = false by rw [hnw]; exact decide_eq_false (by omega)) ?_
        rw [if_neg h8] at hrd
        have hsub : ifn .sub .i64 (l.length : Int) 1 = (r.length : Int) := by
          show IntKind.i64.wrap ((l.length : Int) - 1) = _
          rw [wrap_i64 (by omega)]; omega
        by_cases hs : r.length < n.toNat
        · refine br_t (show decide (ifn .sub .i64 (l.length : Int) 1 < IntKind.i64.wrap n) = true by rw [hnw, hsub]; exact decide_eq_true (by omega)) ?_
          rw [if_pos hs] at hrd
          exact done 10 hrd (fun _ => rfl)
        · refine br_f (show decide (ifn .sub .i64 (l.length : Int) 1 < IntKind.i64.wrap n) = false by rw [hnw, hsub]; exact decide_eq_false (by omega)) ?_
          rw [if_neg hs] at hrd
          obtain ⟨c, rfl⟩ : ∃ c : Nat, n = (c : Int) := ⟨n.toNat, by omega⟩
          rw [Int.toNat_natCast] at hs hrd
          obtain ⟨ds, hds⟩ : ∃ ds, ds = r.take c := ⟨_, rfl⟩
          rw [← hds] at hrd
          have hdsl : ds.length = c := by rw [hds, List.length_take]; omega
          have hdsb : Byt ds := fun b q => hb b (by rw [hcase]; exact List.mem_cons_of_mem _ (List.mem_of_mem_take (hds ▸ q)))
          have hdg : ∀ k d, ds[k]? = some d → l[k + 1]? = some d := fun k d hd => by
            rw [hcase, List.getElem?_cons_succ]
            rw [hds, List.getElem?_take] at hd
            split at hd
            · exact hd
            · cases hd
          have hnl := nlen_valB hdsb
          rw [hdsl] at hnl
          have hcw : ifn .add .i64 (IntKind.i64.wrap (c : Int)) 1 = ((c + 1 : Nat) : Int) := by
            show IntKind.i64.wrap (IntKind.i64.wrap (c : Int) + 1) = _
            rw [hnw, wrap_i64 (by omega)]; omega
          have hleft : Left a l (sliA a (c + 1) cap 1) (r.drop c) (cap - (c + 1)) := by
            refine ⟨fun w2 h2 => ?_, by rw [List.length_drop]; omega, blk_sliA _ _ _ _⟩
            have := sli_cells h2 (c + 1) (r.length - c) cap 1 (by rw [bcells_len]; omega) (by rw [bcells_len]; omega) (by decide)
            rw [Nat.mul_one, bcells_sub] at this
            have e : (l.drop (c + 1)).take (r.length - c) = r.drop c := by
              rw [hcase, List.drop_succ_cons]
              exact List.take_of_length_le (by rw [List.length_drop]; exact Nat.le_refl _)
            rwa [e] at this
          have hdl : (r.drop c).length = l.length - (c + 1) := by rw [List.length_drop]; omega
          by_cases hc0 : 0 < c
          · refine br_t (show decide (IntKind.i64.wrap (c : Int) > 0) = true by rw [hnw]; exact decide_eq_true (by omega)) ?_
            obtain ⟨d0, hd0⟩ : ∃ d, ds[0]? = some d := ⟨_, List.getElem?_eq_getElem (by omega)⟩
            obtain ⟨s2, c2⟩ := b_elt H (hdg 0 d0 hd0)
            refine need_i ⟨s2, (show (0 : Int) ≤ 1 by omega), (show (1 : Int) < l.length by omega)⟩ ?_
            refine ⟨⟨[d0], [], [], [], []⟩, fun ids => c2 _ (fun q => q), ⟨rfl, oneNil⟩, ?_⟩
            have hh : ds.headD 0 = d0 := by
              cases ds with
              | nil => simp at hd0
              | cons x y => simpa using hd0
            have hne : ds ≠ [] := fun e => by rw [e] at hd0; simp at hd0
            by_cases hz : d0 = 0
            · refine br_t (show (d0 == 0) = true by simpa using hz) ?_
              rw [if_pos (fun e => hnl.1 e ⟨hne, by rw [hh, hz]⟩)] at hrd
              exact done 11 hrd (fun _ => rfl)
            · refine br_f (show (d0 == 0) = false by simpa using hz) ?_
              have hok : nlen (valB ds) = c := hnl.2 (fun q => hz (hh ▸ q.2))
              rw [if_neg (by simpa using hok)] at hrd
              refine loop_i (QI ds 0) (fun vs => ds.length + 1 - (vs.i.getD 1 0).toNat) (fun ids w2 hp hf => ⟨HX.nil, HXok.none _ _, 0, Nat.zero_le _, rfl, rfl⟩) ?_
              rintro vs hx' hcnt ⟨k, hk1, rfl, rfl⟩
              by_cases hk : k < ds.length
              · refine br_t (show decide (((k + 1 : Nat) : Int) ≤ IntKind.i64.wrap (c : Int)) = true by rw [hnw]; exact decide_eq_true (by omega)) ?_
                obtain ⟨d, hd⟩ : ∃ d, ds[k]? = some d := ⟨_, List.getElem?_eq_getElem hk⟩
                have hdb := hdsb d (List.mem_of_getElem? hd)
                obtain ⟨s3, c3⟩ := b_elt H (hdg k d hd)
                refine need_i ⟨s3, (show (0 : Int) ≤ ((k + 1 : Nat) : Int) by omega), (show ((k + 1 : Nat) : Int) < l.length by omega)⟩ ?_
                refine ⟨⟨[d], [], [], [], []⟩, fun ids => c3 _ (fun q => q), ⟨rfl, oneNil⟩, ?_⟩
                intro ids w2 hp hf
                have hv : valB (ds.take k) < 2 ^ 56 := by
                  have h1 := valB_lt (ds := ds.take k) (fun b q => hdsb b (List.mem_of_mem_take q))
                  rw [List.length_take, Nat.min_eq_left (by omega)] at h1
                  have h2 : (256 : Nat) ^ k ≤ 256 ^ 7 := Nat.pow_le_pow_right (by decide) (by omega)
                  exact Nat.lt_of_lt_of_le h1 (by simpa using h2)
                have hwk : IntKind.i64.wrap (((k + 1 : Nat) : Int) + 1) = ((k + 1 + 1 : Nat) : Int) := by rw [wrap_i64 (by omega)]; omega
                refine ⟨HX.nil, HXok.none _ _, _, rfl, ⟨k + 1, by omega, ?_, rfl⟩, ?_⟩
                · rw [valB_step hd, ← byte_step hv hdb, ← hwk]; rfl
                · show ds.length + 1 - (IntKind.i64.wrap (((k + 1 : Nat) : Int) + 1)).toNat < ds.length + 1 - (((k + 1 : Nat) : Int)).toNat
                  rw [hwk]; omega
              · refine br_f (show decide (((k + 1 : Nat) : Int) ≤ IntKind.i64.wrap (c : Int)) = false by rw [hnw]; exact decide_eq_false (by omega)) ?_
                obtain rfl : k = ds.length := by omega
                rw [List.take_length]
                refine node_from (l := c + 1) a Try.underlying35 (by kernel_rfl) info_byte (fun _ => rfl) (fun _ => ?_) (show c + 1 ≤ l.length by omega) (fun _ => rfl) rfl rfl rfl ?_
                · show Value.int .i64 (ifn .add .i64 (IntKind.i64.wrap (c : Int)) 1) = _
                  rw [hcw]
                intro ids w2 hp hf
                rw [hrd]
                exact ⟨_, _, by unfold qV; dsimp only; rw [hdl]; rfl, hleft, hf.chg.below⟩
          · refine br_f (show decide (IntKind.i64.wrap (c : Int) > 0) = false by rw [hnw]; exact decide_eq_false (by omega)) ?_
            have hc00 : c = 0 := by omega
            have hdn : ds = [] := List.eq_nil_of_length_eq_zero (by omega)
            have hok : nlen (valB ds) = c := hnl.2 (fun q => q.1 hdn)
            rw [if_neg (by simpa using hok)] at hrd
            refine loop_i (QI ds 0) (fun vs => ds.length + 1 - (vs.i.getD 1 0).toNat) (fun ids w2 hp hf => ⟨HX.nil, HXok.none _ _, 0, Nat.zero_le _, rfl, rfl⟩) ?_
            rintro vs hx' hcnt ⟨k, hk1, rfl, rfl⟩
            refine br_f (show decide (((k + 1 : Nat) : Int) ≤ IntKind.i64.wrap (c : Int)) = false by rw [hnw]; exact decide_eq_false (by omega)) ?_
            obtain rfl : k = ds.length := by omega
            rw [List.take_length]
            refine node_from (l := c + 1) a Try.underlying35 (by kernel_rfl) info_byte (fun _ => rfl) (fun _ => ?_) (show c + 1 ≤ l.length by omega) (fun _ => rfl) rfl rfl rfl ?_
            · show Value.int .i64 (ifn .add .i64 (IntKind.i64.wrap (c : Int)) 1) = _
              rw [hcw]
            intro ids w2 hp hf
            rw [hrd]
            exact ⟨_, _, by unfold qV; dsimp only; rw [hdl]; rfl, hleft, hf.chg.below⟩
  · refine br_t (show (bad != 0) = true by simpa using h0) ?_
    exact done bad (by unfold readN; rw [if_pos h0]) (fun _ => rfl)
end Go.Proofs.Ytadgaefmoobcoaa

namespace Go.Proofs.Ytadgaefmoobcoaa
open Go.ChangeShapes Go.WideShapes Go.ChangeAt Go.RowKit Go.Syn Go.Eng
set_option linter.unusedVariables false
set_option linter.unusedSimpArgs false
set_option maxRecDepth 100000
theorem blk_cells {w : World} {b ty : Nat} {us : List Value} (h : Blk w b us ty) : Cells w (some ⟨b, 0, none⟩) us := fun h0 => by
  refine ⟨rfl, ?_, fun i u hi => ?_⟩
  · show b < w.heap.size
    rcases Nat.lt_or_ge b w.heap.size with q | q
    · exact q
    · have h2 : w.heap[b]? = _ := h
      rw [Array.getElem?_eq_none q] at h2; cases h2
  · have := cells_blk (o := 0) h i
    rw [Nat.zero_add] at this
    show w.cell? ⟨b, 0 + i, none⟩ = some u
    rw [Nat.zero_add, ← hi]
    exact this
end Go.Proofs.Ytadgaefmoobcoaa
