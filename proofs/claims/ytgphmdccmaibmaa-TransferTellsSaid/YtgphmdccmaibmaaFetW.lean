/- TransferNewer. -/
import Derived.Test.YtgphmdccmaibmaaFetN
import Derived.Test.YtgphmdccmaibmaaDat
namespace Go.Proofs.Ytgphmdccmaibmaa
open Go.ChangeShapes Go.WideShapes Go.ChangeAt Go.RowKit Go.Syn Go.Eng
set_option linter.unusedVariables false
set_option linter.unusedSimpArgs false
def sumS (bs : List Int) : ByteArray := strOfNums (eightB (sumB bs))
theorem sumS_eq (bs : List Int) : strOfNums (eightB (sumB bs)) = sumS bs := rfl
section
variable {C : Cfg} {ρ : Env} {pre : List Nat} {hx rest : HX} {L : Stack} {m m' : Mem} {args : List SV} {r : SV} {t : Tree} {a : Option Addr} {cap : Nat} {g : List Int}
/-- A copy of bytes, beside a fetch. -/
theorem node_cpr {sa : Option Addr} {sc : Nat} {bs : List Int} (hP : C.P = Try.prog) (hok : RowOk C a cap rest) (hc0 : ∀ w, rest.X w → Cells w sa (bcells bs)) (hl : bs.length ≤ 140737488355328) (hargs : ∀ ids, (args.map (SV.den ρ ids)).toArray = #[.slice sa bs.length sc])
    (hr : ∀ a' c' ids, r.den (ρ.add ⟨[], [], [], [bs.length, c'], [a']⟩) ids = .slice a' bs.length c') (hhp : m'.hp = m.hp) (hfit : hpFits m.c m.hp.length m.hp = true) (hc : ∀ a' c', (ρ.add ⟨[], [], [], [bs.length, c'], [a']⟩).cnt = m'.c)
    (h : ∀ a' c', bs.length ≤ c' → RowOk C a cap (rest.and (HX.cl a' (bcells bs))) → t.holds C (ρ.add ⟨[], [], [], [bs.length, c'], [a']⟩) pre ((rest.and (HX.cl a' (bcells bs))).and (frow a cap g)) L) : (Tree.call 11 args m r m' t).holds C ρ pre (rest.and (frow a cap g)) L :=
  node_newr (V := id) _ (fun a' c' => ⟨[], [], [], [bs.length, c'], [a']⟩) hok hargs (fun ids w hp hf => by rw [hP]; exact copyb_new sa sc bs w (hc0 w hf.x.1) hl) hr hhp hfit hc (fun _ _ => oneNil) h
/-- An offer of bytes. -/
theorem node_off {slot : Int} {sa : Option Addr} {sc : Nat} {bs : List Int} (hP : C.P = Try.prog) (hok : RowOk C a cap rest) (hc0 : ∀ w, rest.X w → Cells w sa (bcells bs)) (hl : bs.length ≤ 140737488351232) (hargs : ∀ ids, (args.map (SV.den ρ ids)).toArray = #[.int .i64 slot, .slice sa bs.length sc])
    (hr : ∀ a' c' ids, r.den (ρ.add ⟨[10, 0, 0, 0, 0, 0, slot, (bs.length : Int), 0, 0, 0, 0, 0, 0, 0, 0, 0, 0, 0, 0, 0], [], [], [0, 0, 0, 0, 0, 0, 8, c'], [none, none, none, a']⟩) ids = .agg (msgV 10 slot bs.length (.slice a' 8 c'))) (hhp : m'.hp = m.hp) (hfit : hpFits m.c m.hp.length m.hp = true) (hc : ∀ a' c', (ρ.add ⟨[10, 0, 0, 0, 0, 0, slot, (bs.length : Int), 0, 0, 0, 0, 0, 0, 0, 0, 0, 0, 0, 0, 0], [], [], [0, 0, 0, 0, 0, 0, 8, c'], [none, none, none, a']⟩).cnt = m'.c)
    (h : ∀ a' c', RowOk C a cap (rest.and (HX.cl a' (bcells (eightB (sumB bs))))) → t.holds C (ρ.add ⟨[10, 0, 0, 0, 0, 0, slot, (bs.length : Int), 0, 0, 0, 0, 0, 0, 0, 0, 0, 0, 0, 0, 0], [], [], [0, 0, 0, 0, 0, 0, 8, c'], [none, none, none, a']⟩) pre ((rest.and (HX.cl a' (bcells (eightB (sumB bs))))).and (frow a cap g)) L) : (Tree.call 10 args m r m' t).holds C ρ pre (rest.and (frow a cap g)) L :=
  node_newr (V := fun v => .agg (msgV 10 slot bs.length v)) (bs := eightB (sumB bs)) _ (fun a' c' => ⟨[10, 0, 0, 0, 0, 0, slot, (bs.length : Int), 0, 0, 0, 0, 0, 0, 0, 0, 0, 0, 0, 0, 0], [], [], [0, 0, 0, 0, 0, 0, 8, c'], [none, none, none, a']⟩) hok hargs (fun ids w hp hf => by rw [hP]; exact offer_any slot sa sc bs w (hc0 w hf.x.1) hl) (fun a' c' ids => hr a' c' ids) hhp hfit hc (fun _ _ => oneNil) (fun a' c' _ hk => h a' c' hk)
/-- An answer. -/
theorem node_ans {slot low : Int} {sa : Option Addr} {sc : Nat} {bs p : List Int} (hP : C.P = Try.prog) (hok : RowOk C a cap rest) (hc0 : ∀ w, rest.X w → Cells w sa (bcells bs)) (hl : bs.length ≤ 140737488351232) (hsc : bs.length ≤ sc) (hp : pieceB bs low = p) (hne : p ≠ []) (hargs : ∀ ids, (args.map (SV.den ρ ids)).toArray = #[.int .i64 slot, .slice sa bs.length sc, .agg (msgV 11 slot low (.slice none 0 0))])
    (hr : ∀ a' c' ids, r.den (ρ.add ⟨[12, 0, 0, 0, 0, 0, slot, low, 0, 0, 0, 0, 0, 0, 0, 0, 0, 0, 0, 0, 0], [true], [], [0, 0, 0, 0, 0, 0, p.length, c'], [none, none, none, a']⟩) ids = .tuple #[.agg (msgV 12 slot low (.slice a' p.length c')), .bool true]) (hhp : m'.hp = m.hp) (hfit : hpFits m.c m.hp.length m.hp = true) (hc : ∀ a' c', (ρ.add ⟨[12, 0, 0, 0, 0, 0, slot, low, 0, 0, 0, 0, 0, 0, 0, 0, 0, 0, 0, 0, 0], [true], [], [0, 0, 0, 0, 0, 0, p.length, c'], [none, none, none, a']⟩).cnt = m'.c)
    (h : ∀ a' c', RowOk C a cap (rest.and (HX.cl a' (bcells p))) → t.holds C (ρ.add ⟨[12, 0, 0, 0, 0, 0, slot, low, 0, 0, 0, 0, 0, 0, 0, 0, 0, 0, 0, 0, 0], [true], [], [0, 0, 0, 0, 0, 0, p.length, c'], [none, none, none, a']⟩) pre ((rest.and (HX.cl a' (bcells p))).and (frow a cap g)) L) : (Tree.call 13 args m r m' t).holds C ρ pre (rest.and (frow a cap g)) L := by
  subst hp
  exact node_newr (V := fun v => .tuple #[.agg (msgV 12 slot low v), .bool true]) (bs := pieceB bs low) _ (fun a' c' => ⟨[12, 0, 0, 0, 0, 0, slot, low, 0, 0, 0, 0, 0, 0, 0, 0, 0, 0, 0, 0, 0], [true], [], [0, 0, 0, 0, 0, 0, (pieceB bs low).length, c'], [none, none, none, a']⟩) hok hargs (fun ids w _ hf => by rw [hP]; exact answer_yes slot low sa sc bs w (hc0 w hf.x.1) hl hsc hne) (fun a' c' ids => hr a' c' ids) hhp hfit hc (fun _ _ => oneNil) (fun a' c' _ hk => h a' c' hk)
end
theorem br_fk {C : Cfg} {ρ : Env} {pre : List Nat} {hx : HX} {L : Stack} {b : BE} {t f : Tree} (c : Bool) (h1 : b.den ρ = c) (h2 : c = false) (h : f.holds C ρ pre hx L) : (Tree.br b t f).holds C ρ pre hx L := br_f (h1.trans h2) h
theorem br_tk {C : Cfg} {ρ : Env} {pre : List Nat} {hx : HX} {L : Stack} {b : BE} {t f : Tree} (c : Bool) (h1 : b.den ρ = c) (h2 : c = true) (h : t.holds C ρ pre hx L) : (Tree.br b t f).holds C ρ pre hx L := br_t (h1.trans h2) h
set_option maxHeartbeats 4000000 in
set_option maxRecDepth 100000 in
theorem newer_walk (a : Option Addr) (ca : Nat) (xs : List Int) (b : Option Addr) (cb : Nat) (bs : List Int) (hv : Int) (w : World) (Ha : Cells w a (bcells xs)) (Hb : Cells w b (bcells bs)) : Calls Try.prog 5 #[.slice a xs.length ca, .slice b bs.length cb, .int .i64 hv] w fun e w' => e = .returned (.bool true) ∧ Below w.heap.size w w' := by
  refine calls_at (tab_ok _) Try.func5 rfl tTNewer (ρ := ⟨[hv], [], [], [xs.length, ca, bs.length, cb], [a, b]⟩) (ids := []) (hx := (HX.cl a (bcells xs)).and (HX.cl b (bcells bs))) rfl (Facts.initq rfl oneNil ⟨Ha, Hb⟩ (fun k hk => hk.elim (cl_sep Ha k) (cl_sep Hb k))) ?_
  refine node_val ⟨[], [true], [], [], []⟩ (fun w => thead_any w) (fun _ => rfl) (fun _ => rfl) rfl rfl rfl oneNil ?_
  refine br_f rfl ?_
  by_cases h1 : xs.length < 1025
  · exact br_t (show decide ((xs.length : Int) < 1025) = true by simp; omega) (pure_done fun _ => rfl)
  refine br_f (show decide ((xs.length : Int) < 1025) = false by simp; omega) ?_
  by_cases h2 : bs.length < 1
  · exact br_t (show decide ((bs.length : Int) < 1) = true by simp; omega) (pure_done fun _ => rfl)
  refine br_f (show decide ((bs.length : Int) < 1) = false by simp; omega) ?_
  by_cases h3 : xs.length > 16384
  · exact br_t (show decide ((xs.length : Int) > 16384) = true by simp; omega) (pure_done fun _ => rfl)
  refine br_f (show decide ((xs.length : Int) > 16384) = false by simp; omega) ?_
  by_cases h4 : bs.length > 16384
  · exact br_t (show decide ((bs.length : Int) > 16384) = true by simp; omega) (pure_done fun _ => rfl)
  refine br_f (show decide ((bs.length : Int) > 16384) = false by simp; omega) ?_
  have hv7 : 0 ≤ ifn .and .i64 hv 7 ∧ ifn .and .i64 hv 7 ≤ 7 := and_small (n := 7) (by decide)
  refine node_newB 61 ⟨[0, 0, 0], [], [.string ⟨#[]⟩], [0, 0], [none]⟩ (fun w => fnew_any w) (fun _ => rfl) rfl (fun _ => rfl) rfl rfl rfl one1 ?_
  refine holds_frow0 ?_
  refine node_cpr (sa := a) (sc := ca) (bs := xs) rfl row_ok0 (fun w h => h.1) (by omega) (by intros; kernel_rfl) (by intros; kernel_rfl) (by intros; kernel_rfl) (by intros; kernel_rfl) (by intros; kernel_rfl) ?_
  intro a1 c1 hc1 ok1
  refine node_off (sa := a1) (sc := c1) (slot := 10) (bs := xs) rfl ok1 (fun w h => h.2) (by omega) (by intros; kernel_rfl) (by intros; kernel_rfl) (by intros; kernel_rfl) (by intros; kernel_rfl) (by intros; kernel_rfl) ?_
  intro a2 c2 ok2
  refine node_fet0 (f := Ft.zero) (f' := ⟨1, 10, xs.length, sumS xs, []⟩) (V := fun _ => .bool true) 0 (fun b => #[.pointer (some ⟨b, 0, none⟩), .int .i64 1, .agg (msgV 10 10 xs.length (.slice a2 8 c2)), .int .i64 (ifn .and .i64 hv 7)]) (fun a' cap' ai ci => ⟨[1, 10, (xs.length : Int)], [true], [.string (sumS xs)], [0, cap'], [a']⟩) rfl rfl (by intros; kernel_rfl) ok2 (by intros; kernel_rfl) (fun ids w2 hp hf HA => ?_) [.int .i64 (.var 25), .int .i64 (.var 26), .int .i64 (.var 27), .val 1, .sl 8 (.var 16) (.var 17)] (by intros; kernel_rfl) (by intros; kernel_rfl) (by intros; kernel_rfl) (by intros; kernel_rfl) (by intros; kernel_rfl) (fun _ _ _ _ => one1) ?_
  · exact off_new (src := 1) (slot := 10) (low := xs.length) (cd := c2) (ad := a2) (d := eightB (sumB xs)) HA hf.x.1.2 (fun k hk => (data_off ok2 hf (Nat.zero_lt_succ _) (fun k hk => .inr hk) k hk).1) (show ifn .and .i64 hv 7 < 10 by omega) (by omega) (by omega) rfl (show (0 : Int) < 10 by decide)
  intro a3 cap3 _ _ ok3
  refine br_f rfl ?_
  refine node_pull (vs := ⟨[1, 11, 0, 0, 0, 0, 0, 10, 0, 0, 0, 0, 0, 0, 0, 0, 0, 0, 0, 0, 0, 0], [true], [], [0, 0, 0, 0, 0, 0, 0, 0], [none, none, none, none]⟩) (f := ⟨1, 10, xs.length, sumS xs, []⟩) (a := a3) (cap := cap3) 0 rfl rfl (by intros; kernel_rfl) (fun nb w hb => pull_yes nb _ _ _ w hb (show (10 : Int) ≠ 0 by decide)) (by intros; kernel_rfl) (by intros; kernel_rfl) (by intros; kernel_rfl) (by intros; kernel_rfl) (by intros; kernel_rfl) oneNil ?_
  have hpa : pieceB xs 0 = xs.take 1024 := by unfold pieceB; rw [if_neg (by omega)]; rfl
  obtain ⟨pa, hpe⟩ : ∃ pa, pa = xs.take 1024 := ⟨_, rfl⟩
  have hpl : pa.length = 1024 := by rw [hpe, List.length_take]; omega
  have hpn : pa ≠ [] := fun e => by rw [e] at hpl; cases hpl
  refine par_i (node_cpr (sa := a) (sc := ca) (bs := xs) rfl ok3 (fun w h => h.1.1.1) (by omega) (by intros; kernel_rfl) (by intros; kernel_rfl) (by intros; kernel_rfl) (by intros; kernel_rfl) (by intros; kernel_rfl) (fun a4 c4 hc4 ok4 => par_i ?_ ?_)) (node_cpr (sa := a) (sc := ca) (bs := xs) rfl ok3 (fun w h => h.1.1.1) (by omega) (by intros; kernel_rfl) (by intros; kernel_rfl) (by intros; kernel_rfl) (by intros; kernel_rfl) (by intros; kernel_rfl) (fun a4 c4 hc4 ok4 => ?_))
  all_goals
    refine node_ans (sa := a4) (sc := c4) (slot := 10) (low := 0) (bs := xs) (p := pa) rfl ok4 (fun w h => h.2) (by omega) hc4 (by rw [hpa, hpe]) hpn (by intros; kernel_rfl) (by intros; kernel_rfl) (by intros; kernel_rfl) (by intros; kernel_rfl) (by intros; kernel_rfl) ?_
    intro a5 c5 ok5
    refine node_fet0 (f := ⟨1, 10, xs.length, sumS xs, []⟩) (f' := ⟨1, 10, xs.length, sumS xs, pa⟩) (V := fun v => .tuple #[v, .int .i64 0, .int .i64 0]) 0 (fun b => #[.pointer (some ⟨b, 0, none⟩), .agg (msgV 12 10 0 (.slice a5 pa.length c5))]) (fun a' cap' ai ci => ⟨[1, 10, (xs.length : Int), 0, 0], [], [.string (sumS xs)], [pa.length, cap', 0, ci], [a', ai]⟩) rfl rfl (by intros; kernel_rfl) ok5 (by intros; kernel_rfl) (fun ids w2 hp hf HA => ?_) [.int .i64 (.var 71), .int .i64 (.var 72), .int .i64 (.var 73), .val 2, .sl 18 (.var 36) (.var 37)] (by intros; kernel_rfl) (by intros; kernel_rfl) (by intros; kernel_rfl) (by intros; kernel_rfl) (by intros; kernel_rfl) (fun _ _ _ _ => one1) ?_
    · exact part_more (slot := 10) (low := 0) (cd := c5) (d := pa) HA hf.x.1.2 (data_off ok5 hf (Nat.zero_lt_succ _) (fun k hk => .inr hk)) (Nat.zero_le _) ⟨Int.natCast_nonneg _, by show ((xs.length : Nat) : Int) ≤ _; omega⟩ (show (10 : Int) ≠ 0 by decide) rfl rfl hpn (by show (([] ++ pa).length : Int) < (xs.length : Int); rw [List.nil_append, hpl]; omega)
    intro a6 cap6 ai6 ci6 ok6
    refine br_f (by kernel_rfl) ?_
    refine node_cpr (sa := b) (sc := cb) (bs := bs) rfl ok6 (fun w h => h.1.1.1.1.2) (by omega) (by intros; kernel_rfl) (by intros; kernel_rfl) (by intros; kernel_rfl) (by intros; kernel_rfl) (by intros; kernel_rfl) ?_
    intro a7 c7 hc7 ok7
    refine node_off (sa := a7) (sc := c7) (slot := 9) (bs := bs) rfl ok7 (fun w h => h.2) (by omega) (by intros; kernel_rfl) (by intros; kernel_rfl) (by intros; kernel_rfl) (by intros; kernel_rfl) (by intros; kernel_rfl) ?_
    intro a8 c8 ok8
    refine node_fet0 (f := ⟨1, 10, xs.length, sumS xs, pa⟩) (f' := ⟨1, 10, xs.length, sumS xs, pa⟩) (V := fun _ => .bool false) 0 (fun b => #[.pointer (some ⟨b, 0, none⟩), .int .i64 2, .agg (msgV 10 9 bs.length (.slice a8 8 c8)), .int .i64 (ifn .and .i64 hv 7)]) (fun a' cap' ai ci => ⟨[1, 10, (xs.length : Int)], [false], [.string (sumS xs)], [pa.length, cap'], [a']⟩) rfl rfl (by intros; kernel_rfl) ok8 (by intros; kernel_rfl) (fun ids w2 hp hf HA => ?_) [.int .i64 (.var 97), .int .i64 (.var 98), .int .i64 (.var 99), .val 3, .sl 25 (.var 50) (.var 51)] (by intros; kernel_rfl) (by intros; kernel_rfl) (by intros; kernel_rfl) (by intros; kernel_rfl) (by intros; kernel_rfl) (fun _ _ _ _ => one1) ?_
    · exact off_low (src := 2) (slot := 9) (low := bs.length) (cd := c8) (ad := a8) (d := eightB (sumB bs)) HA hf.x.1.2 (fun k hk => (data_off ok8 hf (Nat.zero_lt_succ _) (fun k hk => .inr hk) k hk).1) (show ifn .and .i64 hv 7 < 9 by omega) (by omega) (by omega) rfl (show (9 : Int) < 10 by decide) (show (0 : Int) < 10 by decide)
    intro a9 cap9 _ _ ok9
    refine br_f (by kernel_rfl) ?_
    refine node_pull (vs := ⟨[1, 11, 0, 0, 0, 0, 0, 10, (pa.length : Int), 0, 0, 0, 0, 0, 0, 0, 0, 0, 0, 0, 0, 0], [true], [], [0, 0, 0, 0, 0, 0, 0, 0], [none, none, none, none]⟩) (f := ⟨1, 10, xs.length, sumS xs, pa⟩) (a := a9) (cap := cap9) 0 rfl rfl (by intros; kernel_rfl) (fun nb w hb => pull_yes nb _ _ _ w hb (show (10 : Int) ≠ 0 by decide)) (by intros; kernel_rfl) (by intros; kernel_rfl) (by intros; kernel_rfl) (by intros; kernel_rfl) (by intros; kernel_rfl) oneNil ?_
    refine br_f (by kernel_rfl) (br_f (by kernel_rfl) (br_fk ((pa.length : Int) != 1024) (by kernel_rfl) (by rw [hpl]; rfl) ?_))
    refine node_cpr (sa := b) (sc := cb) (bs := bs) rfl ok9 (fun w h => h.1.1.1.1.1.1.2) (by omega) (by intros; kernel_rfl) (by intros; kernel_rfl) (by intros; kernel_rfl) (by intros; kernel_rfl) (by intros; kernel_rfl) ?_
    intro a10 c10 hc10 ok10
    refine node_off (sa := a10) (sc := c10) (slot := 11) (bs := bs) rfl ok10 (fun w h => h.2) (by omega) (by intros; kernel_rfl) (by intros; kernel_rfl) (by intros; kernel_rfl) (by intros; kernel_rfl) (by intros; kernel_rfl) ?_
    intro a11 c11 ok11
    refine node_fet0 (f := ⟨1, 10, xs.length, sumS xs, pa⟩) (f' := ⟨2, 11, bs.length, sumS bs, []⟩) (V := fun _ => .bool true) 0 (fun b => #[.pointer (some ⟨b, 0, none⟩), .int .i64 2, .agg (msgV 10 11 bs.length (.slice a11 8 c11)), .int .i64 (ifn .and .i64 hv 7)]) (fun a' cap' ai ci => ⟨[2, 11, (bs.length : Int)], [true], [.string (sumS bs)], [0, cap'], [a']⟩) rfl rfl (by intros; kernel_rfl) ok11 (by intros; kernel_rfl) (fun ids w2 hp hf HA => ?_) [.int .i64 (.var 143), .int .i64 (.var 144), .int .i64 (.var 145), .val 4, .sl 35 (.var 70) (.var 71)] (by intros; kernel_rfl) (by intros; kernel_rfl) (by intros; kernel_rfl) (by intros; kernel_rfl) (by intros; kernel_rfl) (fun _ _ _ _ => one1) ?_
    · exact off_new (src := 2) (slot := 11) (low := bs.length) (cd := c11) (ad := a11) (d := eightB (sumB bs)) HA hf.x.1.2 (fun k hk => (data_off ok11 hf (Nat.zero_lt_succ _) (fun k hk => .inr hk) k hk).1) (show ifn .and .i64 hv 7 < 11 by omega) (by omega) (by omega) rfl (show (10 : Int) < 11 by decide)
    intro a12 cap12 _ _ ok12
    refine br_f (by kernel_rfl) ?_
    refine node_pull (vs := ⟨[2, 11, 0, 0, 0, 0, 0, 11, 0, 0, 0, 0, 0, 0, 0, 0, 0, 0, 0, 0, 0, 0], [true], [], [0, 0, 0, 0, 0, 0, 0, 0], [none, none, none, none]⟩) (f := ⟨2, 11, bs.length, sumS bs, []⟩) (a := a12) (cap := cap12) 0 rfl rfl (by intros; kernel_rfl) (fun nb w hb => pull_yes nb _ _ _ w hb (show (11 : Int) ≠ 0 by decide)) (by intros; kernel_rfl) (by intros; kernel_rfl) (by intros; kernel_rfl) (by intros; kernel_rfl) (by intros; kernel_rfl) oneNil ?_
    refine br_f (by kernel_rfl) (br_f (by kernel_rfl) (br_f (by kernel_rfl) (br_f (by kernel_rfl) ?_)))
    refine node_fet0 (f := ⟨2, 11, bs.length, sumS bs, []⟩) (f' := ⟨2, 11, bs.length, sumS bs, []⟩) (V := fun _ => .tuple #[]) 0 (fun b => #[.pointer (some ⟨b, 0, none⟩), .int .i64 10]) (fun a' cap' ai ci => ⟨[2, 11, (bs.length : Int)], [], [.string (sumS bs)], [0, cap'], [a']⟩) rfl rfl (by intros; kernel_rfl) ok12 (by intros; kernel_rfl) (fun ids w2 hp hf HA => ?_) [.int .i64 (.var 168), .int .i64 (.var 169), .int .i64 (.var 170), .val 5, .sl 40 (.var 80) (.var 81)] (by intros; kernel_rfl) (by intros; kernel_rfl) (by intros; kernel_rfl) (by intros; kernel_rfl) (by intros; kernel_rfl) (fun _ _ _ _ => one1) ?_
    · have := drop_any (idAt ids 0) a12 cap12 ⟨2, 11, bs.length, sumS bs, []⟩ 10 w2 HA
      rw [if_neg (show ¬ (11 : Int) ≤ 10 by decide)] at this
      exact this
    intro a13 cap13 _ _ ok13
    refine node_pull (vs := ⟨[2, 11, 0, 0, 0, 0, 0, 11, 0, 0, 0, 0, 0, 0, 0, 0, 0, 0, 0, 0, 0, 0], [true], [], [0, 0, 0, 0, 0, 0, 0, 0], [none, none, none, none]⟩) (f := ⟨2, 11, bs.length, sumS bs, []⟩) (a := a13) (cap := cap13) 0 rfl rfl (by intros; kernel_rfl) (fun nb w hb => pull_yes nb _ _ _ w hb (show (11 : Int) ≠ 0 by decide)) (by intros; kernel_rfl) (by intros; kernel_rfl) (by intros; kernel_rfl) (by intros; kernel_rfl) (by intros; kernel_rfl) oneNil ?_
    refine node_fet0 (f := ⟨2, 11, bs.length, sumS bs, []⟩) (f' := Ft.zero) (V := fun _ => .tuple #[]) 0 (fun b => #[.pointer (some ⟨b, 0, none⟩), .int .i64 11]) (fun a' cap' ai ci => ⟨[0, 0, 0], [], [.string ⟨#[]⟩], [0, cap'], [a']⟩) rfl rfl (by intros; kernel_rfl) ok13 (by intros; kernel_rfl) (fun ids w2 hp hf HA => ?_) [.int .i64 (.var 193), .int .i64 (.var 194), .int .i64 (.var 195), .val 6, .sl 45 (.var 90) (.var 91)] (by intros; kernel_rfl) (by intros; kernel_rfl) (by intros; kernel_rfl) (by intros; kernel_rfl) (by intros; kernel_rfl) (fun _ _ _ _ => one1) ?_
    · have := drop_any (idAt ids 0) a13 cap13 ⟨2, 11, bs.length, sumS bs, []⟩ 11 w2 HA
      rw [if_pos (show (11 : Int) ≤ 11 by decide)] at this
      exact this
    intro a14 cap14 _ _ ok14
    refine node_pull (vs := ⟨[0, 0, 0, 0, 0, 0, 0, 0, 0, 0, 0, 0, 0, 0, 0, 0, 0, 0, 0, 0, 0, 0], [false], [], [0, 0, 0, 0, 0, 0, 0, 0], [none, none, none, none]⟩) (f := Ft.zero) (a := a14) (cap := cap14) 0 rfl rfl (by intros; kernel_rfl) (fun nb w hb => pull_no nb _ _ _ w hb rfl) (by intros; kernel_rfl) (by intros; kernel_rfl) (by intros; kernel_rfl) (by intros; kernel_rfl) (by intros; kernel_rfl) oneNil ?_
    exact br_t (by kernel_rfl) (pure_done (by intros; kernel_rfl))
/-- A slice of bytes, as an argument. -/
theorem bytes_of {w : World} {b : Option Addr} {ds : List Dat} (hC : Cells w b (Dat.cellsAll ds)) (hds : ∀ d ∈ ds, d.In Try.prog w 5) : ∃ bs : List Int, bs.length = ds.length ∧ Cells w b (bcells bs) := by
  obtain ⟨bs, rfl, ho⟩ := list_map_of (Dat.int .u8) (fun _ => True) ds (fun d hd => by
    obtain ⟨k0, rfl, _⟩ := in_int Try.underlying5 (hds d hd)
    exact ⟨k0, rfl, trivial⟩)
  refine ⟨bs, by rw [List.length_map], ?_⟩
  have : Dat.cellsAll (bs.map (Dat.int .u8)) = bcells bs := by
    clear hC hds ho
    induction bs with
    | nil => rfl
    | cons x r ih => rw [List.map_cons, bcells, List.map_cons, ← bcells, ← ih]; rfl
  rw [← this]; exact hC
theorem newer_args (a : Option Addr) (ca : Nat) (ds : List Dat) (b : Option Addr) (cb : Nat) (es : List Dat) (hv : Int) (w : World) (hC : Cells w a (Dat.cellsAll ds)) (hds : ∀ d ∈ ds, d.In Try.prog w 5) (hl : ds.length ≤ 9223372036854775807) (hb : ds.length * Try.prog.bytesOf 5 ≤ reachBytes) (hC2 : Cells w b (Dat.cellsAll es)) (hds2 : ∀ d ∈ es, d.In Try.prog w 5) (hl2 : es.length ≤ 9223372036854775807) (hb2 : es.length * Try.prog.bytesOf 5 ≤ reachBytes) (hi : I64 hv) :
    Calls Try.prog 5 #[.slice a ds.length ca, .slice b es.length cb, .int .i64 hv] w fun e w' => e = .returned (.bool true) ∧ Below w.heap.size w w' := by
  obtain ⟨xs, e1, H1⟩ := bytes_of hC hds
  obtain ⟨ys, e2, H2⟩ := bytes_of hC2 hds2
  rw [← e1, ← e2]
  exact newer_walk a ca xs b cb ys hv w H1 H2
end Go.Proofs.Ytgphmdccmaibmaa
