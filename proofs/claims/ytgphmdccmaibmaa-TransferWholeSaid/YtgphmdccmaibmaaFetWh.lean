/- TransferWhole. -/
import Derived.Test.YtgphmdccmaibmaaFetO
import Derived.Test.YtgphmdccmaibmaaTrW
namespace Go.Proofs.Ytgphmdccmaibmaa
open Go.ChangeShapes Go.WideShapes Go.ChangeAt Go.RowKit Go.Syn Go.Eng
set_option linter.unusedVariables false
set_option linter.unusedSimpArgs false
def CW (w : World) (P : Program) : Cfg := ⟨P, w, fun _ => False, fun e w' => e = .returned (.bool true) ∧ Below w.heap.size w w'⟩
/-- What has been fetched of the image. -/
def Fg (xs : List Int) (src : Int) (g : Nat) : Ft := ⟨src, 3, xs.length, sumS xs, xs.take g⟩
structure WS where
  w : World
  xs : List Int
  x : Option Addr
  nf : Nat
/-- The fetch's state, as values and memory. -/
def fvals (is : List Int) (f : Ft) (a : Option Addr) (cap : Nat) : Vals := ⟨is ++ [f.src, f.slot, f.size], [], [.string f.sum], [f.got.length, cap], [a]⟩
def I7 (S : WS) (vals : Vals) (hx : HX) : Prop := ∃ (k : Nat) (a : Option Addr) (cap : Nat) (f : Ft), vals = fvals [(k : Int)] f a cap ∧ hx = (HX.cl S.x (bcells S.xs)).and (frow a cap f.got) ∧ RowOk (CW S.w Try.prog) a cap (HX.cl S.x (bcells S.xs)) ∧
  ((k = 0 ∧ f = Ft.zero) ∨ (1 ≤ k ∧ ∃ src g, f = Fg S.xs src g ∧ g < S.xs.length ∧ 1024 * (k - S.nf) ≤ g)) ∧ k ≤ 400
def I12 (S : WS) (k : Nat) (hx0 : HX) (vals : Vals) (hx : HX) : Prop := ∃ fate : Int, vals = ⟨[fate], [], [], [], []⟩ ∧ hx = hx0 ∧ (S.nf ≤ k → fate = 1)
def I14 (S : WS) (k : Nat) (vals : Vals) (hx : HX) : Prop := ∃ (a : Option Addr) (cap : Nat) (src : Int) (g : Nat), vals = fvals [] (Fg S.xs src g) a cap ∧ hx = (HX.cl S.x (bcells S.xs)).and (frow a cap (S.xs.take g)) ∧ RowOk (CW S.w Try.prog) a cap (HX.cl S.x (bcells S.xs)) ∧ g < S.xs.length ∧ 1024 * (k - S.nf) ≤ g
def I21 (S : WS) (rest : HX) (g : Nat) (ad : Option Addr) (cd pl : Nat) (p : List Int) (vals : Vals) (hx : HX) : Prop := ∃ (n : Nat) (a : Option Addr) (cap : Nat) (src : Int) (g2 : Nat) (d : List Int), vals = fvals [(n : Int)] (Fg S.xs src g2) a cap ∧ hx = (rest.and (frow ad cd d)).and (frow a cap (S.xs.take g2)) ∧ RowOk (CW S.w Try.prog) a cap (rest.and (frow ad cd d)) ∧ d.length = pl ∧ n ≤ 3 ∧
  ((n = 0 ∧ g2 = g ∧ d = p) ∨ (1 ≤ n ∧ g2 = g + pl ∧ g2 < S.xs.length))
def I25 (rest : HX) (ad : Option Addr) (cd pl : Nat) (p : List Int) (n : Nat) (rw2 : HX) (vals : Vals) (hx : HX) : Prop := ∃ d : List Int, vals = ⟨[], [], [], [], []⟩ ∧ hx = (rest.and (frow ad cd d)).and rw2 ∧ d.length = pl ∧ (n = 0 → d = p)
theorem frow_F (a : Option Addr) (cap : Nat) (d d' : List Int) (k : Nat) : (frow a cap d).F k → (frow a cap d').F k := fun h => h
theorem row_sub {C : Cfg} {a : Option Addr} {cap : Nat} {r r' : HX} (h : RowOk C a cap r) (hF : ∀ k, r'.F k → r.F k) : RowOk C a cap r' := fun k h1 h2 => ⟨(h k h1 h2).1, fun q => (h k h1 h2).2 (hF k q)⟩
theorem take_drop_take (xs : List Int) (g n : Nat) : xs.take g ++ (xs.drop g).take n = xs.take (g + n) := by
  rw [List.take_add]
section
variable {C : Cfg} {ρ : Env} {pre : List Nat} {hx : HX} {L : Stack} {m m' : Mem} {args : List SV} {r : SV} {t : Tree}
theorem again_l {key : Nat} {es : Vec} {I : Vals → HX → Prop} (v' : Vals) (hI : lkup key L = some I) (hv : ∀ ids, es.den ρ ids = v') (hx' : HX) (hX : ∀ w ids, Facts C m ρ ids hx w → HXok hx' w ids) (h : I v' hx') : (Tree.again key es m).holds C ρ pre hx L :=
  fun ids w hp hf => ⟨hx', hX w ids hf, I, hI, by rw [hv ids]; exact h⟩
/-- A call that is pure, its arguments and its answer told. -/
theorem node_pvf {f : Nat} (vs : Vals) (AS : Array Value) (V : Value) (hargs : ∀ ids, (args.map (SV.den ρ ids)).toArray = AS) (hr : ∀ ids, r.den (ρ.add vs) ids = V) (hhp : m'.hp = m.hp) (hfit : hpFits m.c m.hp.length m.hp = true) (hc : (ρ.add vs).cnt = m'.c) (h1 : ∀ v, v ∈ vs.v → v.oneCell' = true) (hcall : ∀ ids w, pre <+: ids → Facts C m ρ ids hx w → Calls C.P f AS w (PureAt w V))
    (h : t.holds C (ρ.add vs) pre hx L) : (Tree.call f args m r m' t).holds C ρ pre hx L :=
  node_pure vs hhp hfit hc h1 (fun ids w hp hf => by rw [hargs, hr]; exact hcall ids w hp hf) h
end
theorem one2 {is : List Int} {f : Ft} {a : Option Addr} {cap : Nat} : ∀ v, v ∈ (fvals is f a cap).v → v.oneCell' = true := one1
set_option maxHeartbeats 4000000 in
set_option maxRecDepth 100000 in
theorem whole_walk (x : Option Addr) (cx : Nat) (xs : List Int) (b : Option Addr) (cb : Nat) (fs : List Int) (w : World) (Hx : Cells w x (bcells xs)) (Hf : Ints w b fs) (hfl : fs.length * 8 ≤ 140737488351232) : Calls Try.prog 3 #[.slice x xs.length cx, .slice b fs.length cb] w fun e w' => e = .returned (.bool true) ∧ Below w.heap.size w w' := by
  refine calls_at (tab_ok _) Try.func3 rfl tTWhole (ρ := ⟨[], [], [], [xs.length, cx, fs.length, cb], [x, b]⟩) (ids := []) (hx := HX.cl x (bcells xs)) rfl (Facts.initq rfl oneNil Hx (cl_sep Hx)) ?_
  refine node_pv ⟨[], [true], [], [], []⟩ _ _ (fun w => thead_any w) (by intros; kernel_rfl) (by intros; kernel_rfl) (by intros; kernel_rfl) (by intros; kernel_rfl) (by intros; kernel_rfl) oneNil ?_
  refine br_f rfl ?_
  by_cases h1 : xs.length < 1
  · exact br_t (show decide ((xs.length : Int) < 1) = true by simp; omega) (pure_done fun _ => rfl)
  refine br_f (show decide ((xs.length : Int) < 1) = false by simp; omega) ?_
  by_cases h2 : xs.length > 16384
  · exact br_t (show decide ((xs.length : Int) > 16384) = true by simp; omega) (pure_done fun _ => rfl)
  refine br_f (show decide ((xs.length : Int) > 16384) = false by simp; omega) ?_
  refine node_newB 61 ⟨[0, 0, 0], [], [.string ⟨#[]⟩], [0, 0], [none]⟩ (fun w => fnew_any w) (fun _ => rfl) rfl (fun _ => rfl) rfl rfl rfl one1 ?_
  refine holds_frow0 ?_
  refine loop_i (I7 ⟨w, xs, x, fs.length⟩) (fun vals => 500 - (vals.i.headD 0).toNat) (fun ids w2 hp hf => ⟨_, ⟨hf.x, hf.sep⟩, 0, none, 0, Ft.zero, rfl, rfl, row_ok0, .inl ⟨rfl, rfl⟩, by omega⟩) ?_
  rintro vals hx' hcnt ⟨k, a, cap, f, rfl, rfl, hok, hst, hk4⟩
  have hwn : IntKind.i64.wrap ((fs.length : Int) + 40) = (fs.length : Int) + 40 := wrap_i64 (by omega)
  have hwk : IntKind.i64.wrap ((k : Int) + 1) = ((k + 1 : Nat) : Int) := by rw [wrap_i64 (by omega)]; omega
  have hend : ¬ k < fs.length + 40 ∨ ¬ k < 400 → decide ((fs.length : Int) > 300) = true := fun h => by
    rcases hst with ⟨h0, _⟩ | ⟨_, src, g, _, hg, hk⟩
    · omega
    · have : g < xs.length := hg
      have hk' : 1024 * (k - fs.length) ≤ g := hk
      simp; omega
  by_cases hk1 : ¬ k < fs.length + 40
  · refine br_f (show decide ((k : Int) < IntKind.i64.wrap ((fs.length : Int) + 40)) = false by rw [hwn]; simp; omega) (pure_done fun _ => ?_)
    show Value.bool (decide ((fs.length : Int) > 300)) = _
    rw [hend (.inl hk1)]
  refine br_t (show decide ((k : Int) < IntKind.i64.wrap ((fs.length : Int) + 40)) = true by rw [hwn]; simp; omega) ?_
  by_cases hk2 : ¬ k < 400
  · refine br_f (show decide ((k : Int) < 400) = false by simp; omega) (pure_done fun _ => ?_)
    show Value.bool (decide ((fs.length : Int) > 300)) = _
    rw [hend (.inr hk2)]
  refine br_t (show decide ((k : Int) < 400) = true by simp; omega) ?_
  refine ⟨I12 ⟨w, xs, x, fs.length⟩ k ((HX.cl x (bcells xs)).and (frow a cap f.got)), ?_, ?_⟩
  · by_cases hk3 : k < fs.length
    · refine br_t (show decide ((k : Int) < (fs.length : Int)) = true by simp; omega) ?_
      obtain ⟨y, hy⟩ : ∃ y, fs[k]? = some y := ⟨_, List.getElem?_eq_getElem hk3⟩
      have he := ints_elt Hf hy
      refine need_i ⟨he.1, (show (0 : Int) ≤ k by omega), (show (k : Int) < fs.length by omega)⟩ ?_
      refine ⟨⟨[y], [], [], [], []⟩, fun ids => he.2 _ (fun e => e), ⟨rfl, fun v hv => hcnt.one v (by simpa [Env.add] using hv)⟩, ?_⟩
      intro ids w2 hp hf
      exact ⟨_, ⟨hf.x, hf.sep⟩, _, rfl, y, rfl, rfl, fun h => by have : fs.length ≤ k := h; omega⟩
    · refine br_f (show decide ((k : Int) < (fs.length : Int)) = false by simp; omega) ?_
      intro ids w2 hp hf
      exact ⟨_, ⟨hf.x, hf.sep⟩, _, rfl, 1, rfl, rfl, fun _ => rfl⟩
  rintro vals hx' hcnt2 ⟨fate, rfl, rfl, hfate⟩
  refine ⟨I14 ⟨w, xs, x, fs.length⟩ k, ?_, ?_⟩
  · have offer0 : ∀ {f' : Ft}, True := fun {_} => trivial
    by_cases hk0 : k = 0
    · subst hk0
      have hf0 : f = Ft.zero := by
        rcases hst with ⟨_, h⟩ | ⟨h, _⟩
        · exact h
        · omega
      subst hf0
      refine br_t (by kernel_rfl) ?_
      refine node_cpr (sa := x) (sc := cx) (bs := xs) rfl hok (fun w h => h) (by omega) (by intros; kernel_rfl) (by intros; kernel_rfl) (by intros; kernel_rfl) (by intros; kernel_rfl) (by intros; kernel_rfl) ?_
      intro a1 c1 hc1 ok1
      refine node_off (sa := a1) (sc := c1) (slot := 3) (bs := xs) rfl ok1 (fun w h => h.2) (by omega) (by intros; kernel_rfl) (by intros; kernel_rfl) (by intros; kernel_rfl) (by intros; kernel_rfl) (by intros; kernel_rfl) ?_
      intro a2 c2 ok2
      refine node_fet0 (f := Ft.zero) (f' := Fg xs (ifn .add .i64 1 (ifn .and .i64 fate 1)) 0) (V := fun _ => .bool true) 0 (fun b => #[.pointer (some ⟨b, 0, none⟩), .int .i64 (ifn .add .i64 1 (ifn .and .i64 fate 1)), .agg (msgV 10 3 xs.length (.slice a2 8 c2)), .int .i64 2]) (fun a' cap' ai ci => ⟨[ifn .add .i64 1 (ifn .and .i64 fate 1), 3, (xs.length : Int)], [true], [.string (sumS xs)], [(xs.take 0).length, cap'], [a']⟩) rfl rfl (by intros; kernel_rfl) ok2 (by intros; kernel_rfl) (fun ids w2 hp hf HA => ?_) [.int .i64 (.var 29), .int .i64 (.var 30), .int .i64 (.var 31), .val 2, .sl 9 (.var 18) (.var 19)] (by intros; kernel_rfl) (by intros; kernel_rfl) (by intros; kernel_rfl) (by intros; kernel_rfl) (by intros; kernel_rfl) (fun _ _ _ _ => one1) ?_
      · exact off_new (src := ifn .add .i64 1 (ifn .and .i64 fate 1)) (slot := 3) (low := xs.length) (hv := 2) (cd := c2) (ad := a2) (d := eightB (sumB xs)) HA hf.x.1.2 (fun k hk => (data_off ok2 hf (Nat.zero_lt_succ _) (fun k hk => .inr hk) k hk).1) (by decide) (by omega) (by omega) rfl (show (0 : Int) < 3 by decide)
      intro a3 cap3 _ _ ok3 ids w2 hp hf
      exact ⟨(HX.cl x (bcells xs)).and (frow a3 cap3 (xs.take 0)), ⟨⟨hf.x.1.1.1, hf.x.2⟩, fun j hj => hj.elim (fun h => hf.sep j (.inl (.inl (.inl h)))) (fun h => hf.sep j (.inr h))⟩, _, rfl, a3, cap3, _, 0, rfl, rfl, row_sub ok3 (fun k h => .inl (.inl h)), (show 0 < xs.length by omega), by show 1024 * (0 - fs.length) ≤ 0; omega⟩
    · refine br_f (show ((k : Int) == 0) = false by simp; omega) ?_
      rcases hst with ⟨h, _⟩ | ⟨hk5, src, g, rfl, hg, hpg⟩
      · exact absurd h hk0
      have hg' : g < xs.length := hg
      have hgl : (xs.take g).length = g := by rw [List.length_take]; omega
      by_cases h5 : fate = 5
      · refine br_t (show (fate == 5) = true by simp [h5]) ?_
        refine node_cpr (sa := x) (sc := cx) (bs := xs) rfl hok (fun w h => h) (by omega) (by intros; kernel_rfl) (by intros; kernel_rfl) (by intros; kernel_rfl) (by intros; kernel_rfl) (by intros; kernel_rfl) ?_
        intro a1 c1 hc1 ok1
        refine node_off (sa := a1) (sc := c1) (slot := 3) (bs := xs) rfl ok1 (fun w h => h.2) (by omega) (by intros; kernel_rfl) (by intros; kernel_rfl) (by intros; kernel_rfl) (by intros; kernel_rfl) (by intros; kernel_rfl) ?_
        intro a2 c2 ok2
        refine node_fet0 (f := Fg xs src g) (f' := Fg xs (ifn .add .i64 1 (ifn .and .i64 fate 1)) g) (V := fun _ => .bool true) 0 (fun b => #[.pointer (some ⟨b, 0, none⟩), .int .i64 (ifn .add .i64 1 (ifn .and .i64 fate 1)), .agg (msgV 10 3 xs.length (.slice a2 8 c2)), .int .i64 2]) (fun a' cap' ai ci => ⟨[ifn .add .i64 1 (ifn .and .i64 fate 1), 3, (xs.length : Int)], [true], [.string (sumS xs)], [(xs.take g).length, cap'], [a']⟩) rfl rfl (by intros; kernel_rfl) ok2 (by intros; kernel_rfl) (fun ids w2 hp hf HA => ?_) [.int .i64 (.var 29), .int .i64 (.var 30), .int .i64 (.var 31), .val 2, .sl 9 (.var 18) (.var 19)] (by intros; kernel_rfl) (by intros; kernel_rfl) (by intros; kernel_rfl) (by intros; kernel_rfl) (by intros; kernel_rfl) (fun _ _ _ _ => one1) ?_
        · exact off_same (src := ifn .add .i64 1 (ifn .and .i64 fate 1)) (slot := 3) (low := xs.length) (hv := 2) (cd := c2) (ad := a2) (d := eightB (sumB xs)) HA hf.x.1.2 (fun k hk => (data_off ok2 hf (Nat.zero_lt_succ _) (fun k hk => .inr hk) k hk).1) (by decide) (by omega) (by omega) rfl rfl (show (0 : Int) < 3 by decide) rfl rfl
        intro a3 cap3 _ _ ok3 ids w2 hp hf
        exact ⟨(HX.cl x (bcells xs)).and (frow a3 cap3 (xs.take g)), ⟨⟨hf.x.1.1.1, hf.x.2⟩, fun j hj => hj.elim (fun h => hf.sep j (.inl (.inl (.inl h)))) (fun h => hf.sep j (.inr h))⟩, _, rfl, a3, cap3, _, g, rfl, rfl, row_sub ok3 (fun k h => .inl (.inl h)), hg, hpg⟩
      · refine br_f (show (fate == 5) = false by simpa using h5) ?_
        intro ids w2 hp hf
        exact ⟨_, ⟨hf.x, hf.sep⟩, _, rfl, a, cap, src, g, rfl, rfl, hok, hg, hpg⟩
  rintro vals hx' hcnt3 ⟨a4, cap4, src, g, rfl, rfl, ok4, hg, hpg⟩
  have hg' : g < xs.length := hg
  have hpg' : 1024 * (k - fs.length) ≤ g := hpg
  have hgl : (xs.take g).length = g := by rw [List.length_take]; omega
  obtain ⟨p, hpe⟩ : ∃ p, p = (xs.drop g).take 1024 := ⟨_, rfl⟩
  have hpl : p.length = min 1024 (xs.length - g) := by rw [hpe, List.length_take, List.length_drop]
  have hpn : p ≠ [] := fun e => by rw [e] at hpl; simp at hpl; omega
  have hgp : xs.take g ++ p = xs.take (g + p.length) := by
    rw [hpe, take_drop_take]
    have h8 : ((xs.drop g).take 1024).length = min 1024 (xs.length - g) := by rw [List.length_take, List.length_drop]
    rw [h8]
    rcases Nat.le_total 1024 (xs.length - g) with h | h
    · rw [Nat.min_eq_left h]
    · rw [Nat.min_eq_right h, List.take_of_length_le (by omega), List.take_of_length_le (by omega)]
  refine node_pull (vs := ⟨[src, 11, 0, 0, 0, 0, 0, 3, ((xs.take g).length : Int), 0, 0, 0, 0, 0, 0, 0, 0, 0, 0, 0, 0, 0], [true], [], [0, 0, 0, 0, 0, 0, 0, 0], [none, none, none, none]⟩) (f := Fg xs src g) (a := a4) (cap := cap4) 0 rfl rfl (by intros; kernel_rfl) (fun nb w hb => pull_yes nb _ _ _ w hb (show (3 : Int) ≠ 0 by decide)) (by intros; kernel_rfl) (by intros; kernel_rfl) (by intros; kernel_rfl) (by intros; kernel_rfl) (by intros; kernel_rfl) oneNil ?_
  refine br_f (by kernel_rfl) ?_
  refine par_i (node_cpr (sa := x) (sc := cx) (bs := xs) rfl ok4 (fun w h => h) (by omega) (by intros; kernel_rfl) (by intros; kernel_rfl) (by intros; kernel_rfl) (by intros; kernel_rfl) (by intros; kernel_rfl) (fun a5 c5 hc5 ok5 => par_i ?_ ?_)) (node_cpr (sa := x) (sc := cx) (bs := xs) rfl ok4 (fun w h => h) (by omega) (by intros; kernel_rfl) (by intros; kernel_rfl) (by intros; kernel_rfl) (by intros; kernel_rfl) (by intros; kernel_rfl) (fun a5 c5 hc5 ok5 => ?_))
  all_goals
    refine node_anso (slot := 3) (n := (xs.take g).length) (sa := a5) (sc := c5) (bs := xs) (p := p) rfl ok5 (fun w h => h.2) (by omega) hc5 (by rw [hgl, hpe]) (by omega) (by intros; kernel_rfl) (by intros; kernel_rfl) (by intros; kernel_rfl) (by intros; kernel_rfl) (by intros; kernel_rfl) ?_
    intro a6 c6 hs6 hn6 ok6
    refine br_f (by kernel_rfl) ?_
    have hd6 : ∀ k, c6 ≠ 0 → abk a6 = some k → w.heap.size ≤ k ∧ ¬ (HX.cl x (bcells xs)).F k ∧ ¬ (HX.cl a5 (bcells xs)).F k := fun k h1 h2 => ⟨(hn6 k h1 h2).1, fun q => (hn6 k h1 h2).2.1 (.inl q), fun q => (hn6 k h1 h2).2.1 (.inr q)⟩
    refine loop_i (I21 ⟨w, xs, x, fs.length⟩ ((HX.cl x (bcells xs)).and (HX.cl a5 (bcells xs))) g a6 c6 p.length p) (fun vals => 10 - (vals.i.headD 0).toNat) (fun ids w2 hp hf => ⟨_, ⟨hf.x, hf.sep⟩, 0, a4, cap4, src, g, p, rfl, rfl, ok6, rfl, by omega, .inl ⟨rfl, rfl, rfl⟩⟩) ?_
    rintro vals hx' hcnt4 ⟨n, a7, cap7, src7, g7, d, rfl, rfl, ok7, hdl, hn3, hst7⟩
    have hwn1 : IntKind.i64.wrap ((n : Int) + 1) = ((n + 1 : Nat) : Int) := by rw [wrap_i64 (by omega)]; omega
    have hg7 : g7 < xs.length := by
      rcases hst7 with ⟨_, h, _⟩ | ⟨_, _, h⟩
      · omega
      · exact h
    have hg7l : (xs.take g7).length = g7 := by rw [List.length_take]; omega
    have exit7 : ((n : Int) < fate → 3 ≤ n) → 1024 * (k + 1 - fs.length) ≤ g7 := fun h => by
      rcases hst7 with ⟨h0, h1, _⟩ | ⟨h0, h1, h2⟩
      · have : ¬ fs.length ≤ k := fun q => by
          have := hfate q
          omega
        omega
      · have h2' : g7 < xs.length := h2
        omega
    have out7 : ((n : Int) < fate → 3 ≤ n) → I7 ⟨w, xs, x, fs.length⟩ (fvals [((k + 1 : Nat) : Int)] (Fg xs src7 g7) a7 cap7) ((HX.cl x (bcells xs)).and (frow a7 cap7 (xs.take g7))) := fun h => ⟨k + 1, a7, cap7, Fg xs src7 g7, rfl, rfl, row_sub ok7 (fun k h => .inl (.inl h)), .inr ⟨by omega, src7, g7, rfl, hg7, exit7 h⟩, by omega⟩
    by_cases hb1 : ¬ (n : Int) < fate
    · refine br_fk (decide ((n : Int) < fate)) (by kernel_rfl) (by simp; omega) ?_
      refine again_l (fvals [((k + 1 : Nat) : Int)] (Fg xs src7 g7) a7 cap7) rfl (fun ids => Eq.trans (b := fvals [IntKind.i64.wrap ((k : Int) + 1)] (Fg xs src7 g7) a7 cap7) (by kernel_rfl) (by rw [hwk])) ((HX.cl x (bcells xs)).and (frow a7 cap7 (xs.take g7))) (fun w2 ids hf => ⟨⟨hf.x.1.1.1, hf.x.2⟩, fun j hj => hj.elim (fun h => hf.sep j (.inl (.inl (.inl h)))) (fun h => hf.sep j (.inr h))⟩) ⟨out7 (fun h => absurd h hb1), ?_⟩
      show 500 - (((k + 1 : Nat) : Int)).toNat < 500 - ((k : Int)).toNat
      omega
    refine br_tk (decide ((n : Int) < fate)) (by kernel_rfl) (by simp; omega) ?_
    by_cases hb2 : ¬ n < 3
    · refine br_fk (decide ((n : Int) < 3)) (by kernel_rfl) (by simp; omega) ?_
      refine again_l (fvals [((k + 1 : Nat) : Int)] (Fg xs src7 g7) a7 cap7) rfl (fun ids => Eq.trans (b := fvals [IntKind.i64.wrap ((k : Int) + 1)] (Fg xs src7 g7) a7 cap7) (by kernel_rfl) (by rw [hwk])) ((HX.cl x (bcells xs)).and (frow a7 cap7 (xs.take g7))) (fun w2 ids hf => ⟨⟨hf.x.1.1.1, hf.x.2⟩, fun j hj => hj.elim (fun h => hf.sep j (.inl (.inl (.inl h)))) (fun h => hf.sep j (.inr h))⟩) ⟨out7 (fun _ => by omega), ?_⟩
      show 500 - (((k + 1 : Nat) : Int)).toNat < 500 - ((k : Int)).toNat
      omega
    refine br_tk (decide ((n : Int) < 3)) (by kernel_rfl) (by simp; omega) ?_
    have hdpos : 0 < d.length := by have := List.length_pos_iff.2 hpn; omega
    refine ⟨I25 ((HX.cl x (bcells xs)).and (HX.cl a5 (bcells xs))) a6 c6 p.length p n (frow a7 cap7 (xs.take g7)), ?_, ?_⟩
    · have same : I25 ((HX.cl x (bcells xs)).and (HX.cl a5 (bcells xs))) a6 c6 p.length p n (frow a7 cap7 (xs.take g7)) ⟨[], [], [], [], []⟩ ((((HX.cl x (bcells xs)).and (HX.cl a5 (bcells xs))).and (frow a6 c6 d)).and (frow a7 cap7 (xs.take g7))) := ⟨d, rfl, rfl, hdl, fun h => by
        rcases hst7 with ⟨_, _, h3⟩ | ⟨h3, _⟩
        · exact h3
        · omega⟩
      by_cases hc3 : fate = 3
      · refine br_tk (fate == 3) (by kernel_rfl) (by simp [hc3]) ?_
        by_cases hc2 : n = 2
        · refine br_tk ((n : Int) == 2) (by kernel_rfl) (by simp; omega) ?_
          obtain ⟨y, hy⟩ : ∃ y, d[0]? = some y := ⟨_, List.getElem?_eq_getElem hdpos⟩
          have hsm := hs6 hpn
          have hn0 : (0 : Int) < (d.length : Int) := by omega
          refine need_i ⟨hsm, Int.le_refl 0, by rw [hdl] at hn0; exact hn0⟩ ?_
          refine node_ld ⟨[y], [], [], [], []⟩ (fun ids w2 hp hf => (b_elt (rw_cells hf.x.1.2) (i := 0) hy).2 _ (fun e => e)) (fun ids w2 hf => ⟨by kernel_rfl, fun v hv => hcnt4.one v (by simpa [Env.add] using hv)⟩) ?_
          refine need_i ⟨hsm, Int.le_refl 0, by rw [hdl] at hn0; exact hn0⟩ ?_
          rw [HX.and_right_comm ((HX.cl x (bcells xs)).and (HX.cl a5 (bcells xs))) (frow a6 c6 d) (frow a7 cap7 (xs.take g7))]
          refine node_stores (sz := 1) a6 d.length c6 (bcells d) [.int .u8 (ifn .xor .u8 y 1)] 0 0 (.int .u8 (ifn .xor .u8 y 1)) (by kernel_rfl) (by intros; kernel_rfl) (by intros; kernel_rfl) rfl (by simp [Value.oneCell']) (by simp; omega) (by simp) (fun q h1 h2 hF => ?_) (fun q h1 h2 => .inl (hd6 q h1 h2).1) rfl rfl (by kernel_rfl) ?_
          · rcases hF with (hF | hF) | hF
            · exact (hd6 q h1 h2).2.1 hF
            · exact (hd6 q h1 h2).2.2 hF
            · exact (ok7 q hF.1 hF.2).2 (.inr ⟨h1, h2⟩)
          have espl : HX.rw 1 5 a6 d.length c6 (spl (bcells d) (0 * 1 + 0) [.int .u8 (ifn .xor .u8 y 1)]) = frow a6 c6 (ifn .xor .u8 y 1 :: d.drop 1) := by
            have e1 : spl (bcells d) (0 * 1 + 0) [.int .u8 (ifn .xor .u8 y 1)] = bcells (ifn .xor .u8 y 1 :: d.drop 1) := by
              unfold spl bcells
              rw [List.map_cons, List.map_drop]; simp
            have e2 : (ifn .xor .u8 y 1 :: d.drop 1).length = d.length := by rw [List.length_cons, List.length_drop]; omega
            unfold frow
            rw [e1, e2]
          rw [espl, HX.and_right_comm ((HX.cl x (bcells xs)).and (HX.cl a5 (bcells xs))) (frow a7 cap7 (xs.take g7))]
          exact again_l ⟨[], [], [], [], []⟩ rfl (by intros; kernel_rfl) _ (fun w2 ids hf => ⟨hf.x, hf.sep⟩) ⟨_, rfl, rfl, by rw [List.length_cons, List.length_drop]; omega, fun h => by omega⟩
        · refine br_fk ((n : Int) == 2) (by kernel_rfl) (by simp; omega) ?_
          exact again_l ⟨[], [], [], [], []⟩ rfl (by intros; kernel_rfl) _ (fun w2 ids hf => ⟨hf.x, hf.sep⟩) same
      · refine br_fk (fate == 3) (by kernel_rfl) (by simpa using hc3) ?_
        exact again_l ⟨[], [], [], [], []⟩ rfl (by intros; kernel_rfl) _ (fun w2 ids hf => ⟨hf.x, hf.sep⟩) same
    rintro vals hx'' hcnt5 ⟨d2, rfl, rfl, hd2l, hd20⟩
    have hd2n : d2 ≠ [] := fun e => by rw [e] at hd2l; have := List.length_pos_iff.2 hpn; simp at hd2l; omega
    refine node_cpmr (mg0 12 3 ((xs.take g).length : Int) a6 c6 d2) rfl (fun k h1 h2 => ok7 k h1 h2) (fun ids w2 hp hf => mg0_ok (rw_cells hf.x.1.2) (by omega)) (fun ids => Eq.trans (b := #[.agg (mgV (mg0 12 3 ((xs.take g).length : Int) a6 c6 d2).i (.slice none 0 0) (.slice none 0 0) (.slice none 0 0) (.slice a6 p.length c6))]) (by kernel_rfl) (by rw [← hd2l]; rfl)) (by intros; kernel_rfl) (by intros; kernel_rfl) (by intros; kernel_rfl) (by intros; kernel_rfl) ?_
    intro b0 e0 b1 e1 bv ev bd ed ok8
    rcases hst7 with ⟨hn0, rfl, rfl⟩ | ⟨hn1, hge, _⟩
    · have hd2 := hd20 hn0
      subst hd2
      have hgd : (xs.take g7 ++ d2).length = g7 + d2.length := by rw [List.length_append, hgl]
      by_cases hlt : g7 + d2.length < xs.length
      · refine node_fet0 (f := Fg xs src7 g7) (f' := Fg xs src7 (g7 + d2.length)) (V := fun v => .tuple #[v, .int .i64 0, .int .i64 0]) 0 (fun b => #[.pointer (some ⟨b, 0, none⟩), .agg (mgV (mg0 12 3 ((xs.take g7).length : Int) a6 c6 d2).i (.slice b0 0 e0) (.slice b1 0 e1) (.slice bv 0 ev) (.slice bd d2.length ed))]) (fun a' cap' ai ci => ⟨[src7, 3, (xs.length : Int), 0, 0], [], [.string (sumS xs)], [(xs.take (g7 + d2.length)).length, cap', 0, ci], [a', ai]⟩) rfl rfl (by intros; kernel_rfl) ok8 (by intros; kernel_rfl) (fun ids w2 hp hf HA => ?_) [.int .i64 (.var 79), .int .i64 (.var 80), .int .i64 (.var 81), .val 4, .sl 19 (.var 38) (.var 39)] (by intros; kernel_rfl) (by intros; kernel_rfl) (by intros; kernel_rfl) (by intros; kernel_rfl) (by intros; kernel_rfl) (fun _ _ _ _ => one1) ?_
        · have := partg_more (m := (mg0 12 3 ((xs.take g7).length : Int) a6 c6 d2).i) (q0 := b0) (n0 := 0) (c0 := e0) (q1 := b1) (n1 := 0) (d1 := e1) (qv := bv) (nv := 0) (cv := ev) (ad := bd) (cd := ed) (d := d2) rfl HA hf.x.1.2 (data_off ok8 hf (Nat.zero_lt_succ _) (fun k hk => .inr hk)) (show (xs.take g7).length ≤ 1000000 by omega) ⟨Int.natCast_nonneg _, show ((xs.length : Nat) : Int) ≤ 1000000 by omega⟩ (show (3 : Int) ≠ 0 by decide) rfl rfl hpn (show ((xs.take g7 ++ d2).length : Int) < (xs.length : Int) by rw [hgd]; omega)
          have e9 : (⟨(Fg xs src7 g7).src, (Fg xs src7 g7).slot, (Fg xs src7 g7).size, (Fg xs src7 g7).sum, (Fg xs src7 g7).got ++ d2⟩ : Ft) = Fg xs src7 (g7 + d2.length) := by
            show (⟨src7, 3, xs.length, sumS xs, xs.take g7 ++ d2⟩ : Ft) = _
            rw [hgp]; rfl
          rw [e9] at this
          exact this
        intro a9 cap9 ai9 ci9 ok9
        refine br_t (by kernel_rfl) (br_f (by kernel_rfl) ?_)
        refine again_l (fvals [((n + 1 : Nat) : Int)] (Fg xs src7 (g7 + d2.length)) a9 cap9) rfl (fun ids => Eq.trans (b := fvals [IntKind.i64.wrap ((n : Int) + 1)] (Fg xs src7 (g7 + d2.length)) a9 cap9) (by kernel_rfl) (by rw [hwn1])) ((((HX.cl x (bcells xs)).and (HX.cl a5 (bcells xs))).and (frow a6 c6 d2)).and (frow a9 cap9 (xs.take (g7 + d2.length)))) (fun w2 ids hf => ⟨⟨hf.x.1.1, hf.x.2⟩, fun j hj => hj.elim (fun h => hf.sep j (.inl (.inl h))) (fun h => hf.sep j (.inr h))⟩) ⟨⟨n + 1, a9, cap9, src7, g7 + d2.length, d2, rfl, rfl, row_sub ok9 (fun k h => .inl h), rfl, by omega, .inr ⟨by omega, rfl, hlt⟩⟩, ?_⟩
        show 10 - (((n + 1 : Nat) : Int)).toNat < 10 - ((n : Int)).toNat
        omega
      · have hall : xs.take g7 ++ d2 = xs := by rw [hgp, List.take_of_length_le (by omega)]
        refine node_fetr (f := Fg xs src7 g7) (f' := Ft.zero) (img := xs.take g7 ++ d2) (V := fun v => .tuple #[v, .int .i64 3, .int .i64 0]) 0 (fun b => #[.pointer (some ⟨b, 0, none⟩), .agg (mgV (mg0 12 3 ((xs.take g7).length : Int) a6 c6 d2).i (.slice b0 0 e0) (.slice b1 0 e1) (.slice bv 0 ev) (.slice bd d2.length ed))]) (fun a' cap' ai ci => ⟨[0, 0, 0, 3, 0], [], [.string ⟨#[]⟩], [0, cap', (xs.take g7 ++ d2).length, ci], [a', ai]⟩) rfl rfl (by intros; kernel_rfl) ok8 (by intros; kernel_rfl) (fun ids w2 hp hf HA => ?_) [.int .i64 (.var 79), .int .i64 (.var 80), .int .i64 (.var 81), .val 4, .sl 19 (.var 38) (.var 39)] (by intros; kernel_rfl) (by intros; kernel_rfl) (by intros; kernel_rfl) (by intros; kernel_rfl) (by intros; kernel_rfl) (fun _ _ _ _ => one1) ?_
        · exact partg_last (m := (mg0 12 3 ((xs.take g7).length : Int) a6 c6 d2).i) (q0 := b0) (n0 := 0) (c0 := e0) (q1 := b1) (n1 := 0) (d1 := e1) (qv := bv) (nv := 0) (cv := ev) (ad := bd) (cd := ed) (d := d2) rfl HA hf.x.1.2 (data_off ok8 hf (Nat.zero_lt_succ _) (fun k hk => .inr hk)) (show (xs.take g7).length ≤ 1000000 by omega) ⟨Int.natCast_nonneg _, show ((xs.length : Nat) : Int) ≤ 1000000 by omega⟩ (show (3 : Int) ≠ 0 by decide) rfl rfl hpn (show ((xs.take g7 ++ d2).length : Int) = (xs.length : Int) by rw [hall]) (show strOfNums (eightB (sumB (xs.take g7 ++ d2))) = sumS xs by rw [hall]; rfl)
        intro a9 cap9 ai9 ci9 ok9
        refine br_t (by kernel_rfl) (br_tk (decide (((xs.take g7 ++ d2).length : Int) > 0)) (by kernel_rfl) (by rw [hall]; simp; omega) (br_t (by kernel_rfl) ?_))
        refine node_pvf ⟨[], [decide (xs.take g7 ++ d2 = xs)], [], [], []⟩ #[.slice ai9 (xs.take g7 ++ d2).length ci9, .slice x xs.length cx] (.bool (decide (xs.take g7 ++ d2 = xs))) (by intros; kernel_rfl) (by intros; kernel_rfl) (by intros; kernel_rfl) (by intros; kernel_rfl) (by intros; kernel_rfl) oneNil (fun ids w2 hp hf => sameb_any ai9 ci9 (xs.take g7 ++ d2) x cx xs w2 hf.x.1.2 hf.x.1.1.1.1.1 (by rw [hall]; omega)) ?_
        intro ids w2 hp hf
        refine ⟨?_, hf.chg.below⟩
        refine Eq.trans (b := Ending.returned (.bool (decide (xs.take g7 ++ d2 = xs)))) (by kernel_rfl) ?_
        rw [decide_eq_true hall]
    · have hg7' : g7 = g + p.length := hge
      refine node_fet0 (f := Fg xs src7 g7) (f' := Fg xs src7 g7) (V := fun v => .tuple #[v, .int .i64 0, .int .i64 60]) 0 (fun b => #[.pointer (some ⟨b, 0, none⟩), .agg (mgV (mg0 12 3 ((xs.take g).length : Int) a6 c6 d2).i (.slice b0 0 e0) (.slice b1 0 e1) (.slice bv 0 ev) (.slice bd d2.length ed))]) (fun a' cap' ai ci => ⟨[src7, 3, (xs.length : Int), 0, 60], [], [.string (sumS xs)], [(xs.take g7).length, cap', 0, ci], [a', ai]⟩) rfl rfl (by intros; kernel_rfl) ok8 (by intros; kernel_rfl) (fun ids w2 hp hf HA => ?_) [.int .i64 (.var 79), .int .i64 (.var 80), .int .i64 (.var 81), .val 4, .sl 19 (.var 38) (.var 39)] (by intros; kernel_rfl) (by intros; kernel_rfl) (by intros; kernel_rfl) (by intros; kernel_rfl) (by intros; kernel_rfl) (fun _ _ _ _ => one1) ?_
      · exact partg_bad (m := (mg0 12 3 ((xs.take g).length : Int) a6 c6 d2).i) (q0 := b0) (n0 := 0) (c0 := e0) (q1 := b1) (n1 := 0) (d1 := e1) (qv := bv) (nv := 0) (cv := ev) (ad := bd) (cd := ed) (d := d2) rfl HA hf.x.1.2 (fun k hk => (data_off ok8 hf (Nat.zero_lt_succ _) (fun k hk => .inr hk) k hk).1) (show (xs.take g7).length ≤ 1000000 by omega) ⟨Int.natCast_nonneg _, show ((xs.length : Nat) : Int) ≤ 1000000 by omega⟩ (.inr (.inr (.inl (show ((xs.take g).length : Int) ≠ ((xs.take g7).length : Int) by rw [hgl, hg7l, hg7']; have := List.length_pos_iff.2 hpn; omega))))
      intro a9 cap9 ai9 ci9 ok9
      refine br_f (by kernel_rfl) ?_
      refine again_l (fvals [((n + 1 : Nat) : Int)] (Fg xs src7 g7) a9 cap9) rfl (fun ids => Eq.trans (b := fvals [IntKind.i64.wrap ((n : Int) + 1)] (Fg xs src7 g7) a9 cap9) (by kernel_rfl) (by rw [hwn1])) ((((HX.cl x (bcells xs)).and (HX.cl a5 (bcells xs))).and (frow a6 c6 d2)).and (frow a9 cap9 (xs.take g7))) (fun w2 ids hf => ⟨⟨hf.x.1.1, hf.x.2⟩, fun j hj => hj.elim (fun h => hf.sep j (.inl (.inl h))) (fun h => hf.sep j (.inr h))⟩) ⟨⟨n + 1, a9, cap9, src7, g7, d2, rfl, rfl, row_sub ok9 (fun k h => .inl h), hd2l, by omega, .inr ⟨by omega, hge, hg7⟩⟩, ?_⟩
      show 10 - (((n + 1 : Nat) : Int)).toNat < 10 - ((n : Int)).toNat
      omega
theorem whole_args (a : Option Addr) (ca : Nat) (ds : List Dat) (b : Option Addr) (cb : Nat) (fs : List Int) (w : World) (hC : Cells w a (Dat.cellsAll ds)) (hds : ∀ d ∈ ds, d.In Try.prog w 5) (hl : ds.length ≤ 9223372036854775807) (hb : ds.length * Try.prog.bytesOf 5 ≤ reachBytes) (I0 : Ints w b fs) (s0 : fs.length * 8 ≤ 140737488351232) :
    Calls Try.prog 3 #[.slice a ds.length ca, .slice b fs.length cb] w fun e w' => e = .returned (.bool true) ∧ Below w.heap.size w w' := by
  obtain ⟨xs, e1, H1⟩ := bytes_of hC hds
  rw [← e1]
  exact whole_walk a ca xs b cb fs w H1 I0 s0
end Go.Proofs.Ytgphmdccmaibmaa
