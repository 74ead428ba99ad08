/- slices.Clone of votes and of bytes; msg.Clone. -/
import Derived.Test.YtadgaefmoobcoaaWj
namespace Go.Proofs.Ytadgaefmoobcoaa
open Go.ChangeShapes Go.WideShapes Go.ChangeAt Go.RowKit Go.Syn Go.Eng
set_option linter.unusedVariables false
set_option linter.unusedSimpArgs false
set_option maxRecDepth 100000
set_option maxRecDepth 100000 in
theorem tSCloneV : (runF ⟨tt, fns, { }⟩ (Try.f64.body.getD .skip) Try.f64.results.toList (entry Try.f64.ntmps [.lf (.sl 0 (.var 0) (.var 1))] [] ⟨0, 0, 0, 2, 1⟩)) =
  (.br (.anone 0) (.done (.lf .nilsl) ⟨[], ⟨0, 0, 0, 2, 1⟩⟩) (.gen (.call ⟨(.builtin .append), #[(.tmp 5), (.tmp 6)], #[28, 28]⟩) 28 [(5, (.lf (.nsl 0 0 0 0))), (6, (.lf (tSl 0 0 1)))] ⟨[(59, [])], ⟨0, 0, 0, 2, 1⟩⟩ (.some (.lf (tSl 1 2 3))) ⟨[(59, [])], ⟨0, 0, 0, 4, 2⟩⟩ (.done (.lf (tSl 1 2 3)) ⟨[(59, [])], ⟨0, 0, 0, 4, 2⟩⟩))) := by kernel_rfl
set_option maxRecDepth 100000 in
theorem tSCloneB : (runF ⟨tt, fns, { }⟩ (Try.f65.body.getD .skip) Try.f65.results.toList (entry Try.f65.ntmps [.lf (.sl 0 (.var 0) (.var 1))] [] ⟨0, 0, 0, 2, 1⟩)) =
  (.br (.anone 0) (.done (.lf .nilsl) ⟨[], ⟨0, 0, 0, 2, 1⟩⟩) (.gen (.call ⟨(.builtin .append), #[(.tmp 5), (.tmp 6)], #[35, 35]⟩) 35 [(5, (.lf (.nsl 0 0 0 0))), (6, (.lf (tSl 0 0 1)))] ⟨[(5, [])], ⟨0, 0, 0, 2, 1⟩⟩ (.some (.lf (tSl 1 2 3))) ⟨[(5, [])], ⟨0, 0, 0, 4, 2⟩⟩ (.done (.lf (tSl 1 2 3)) ⟨[(5, [])], ⟨0, 0, 0, 4, 2⟩⟩))) := by kernel_rfl
abbrev tClone7b0 : List LV := [(tVi 0), (tVi 1), (tVi 2), (tVi 3), (tVi 4), (tVi 5), (tVi 6), (tVi 7), (tVi 8), (tVi 21), (tSl 4 8 9), (tSl 5 10 11), (tSl 6 12 13), (tVi 10), (tVi 11), (tVi 12), (tVi 13), (tVi 14), (tVi 15), (tVi 16), (tVi 17), (tVi 18), (tVi 19), (tVi 20), (tSl 7 14 15)]
abbrev tClone7b1 : List LV := [(tVi 0), (tVi 1), (tVi 2), (tVi 3), (tVi 4), (tVi 5), (tVi 6), (tVi 7), (tVi 8), (tVi 21), (tSl 4 8 9), (tSl 5 10 11), (tSl 6 12 13), (tVi 10), (tVi 11), (tVi 12), (tVi 13), (tVi 14), (tVi 15), (tVi 16), (tVi 17), (tVi 18), (tVi 19), (tVi 20), (tSl 3 6 7)]
abbrev tClone7b2 : List LV := [(tVi 0), (tVi 1), (tVi 2), (tVi 3), (tVi 4), (tVi 5), (tVi 6), (tVi 7), (tVi 8), (tVi 21), (tSl 4 8 9), (tSl 5 10 11), (tSl 2 4 5), (tVi 10), (tVi 11), (tVi 12), (tVi 13), (tVi 14), (tVi 15), (tVi 16), (tVi 17), (tVi 18), (tVi 19), (tVi 20), (tSl 3 6 7)]
abbrev tClone7b3 : List LV := [(tVi 0), (tVi 1), (tVi 2), (tVi 3), (tVi 4), (tVi 5), (tVi 6), (tVi 7), (tVi 8), (tVi 9), (tSl 0 0 1), (tSl 1 2 3), (tSl 2 4 5), (tVi 10), (tVi 11), (tVi 12), (tVi 13), (tVi 14), (tVi 15), (tVi 16), (tVi 17), (tVi 18), (tVi 19), (tVi 20), (tSl 3 6 7)]
abbrev tClone7b4 : List LV := [(tLi 0), (tLi 0), (tLi 0), (tLi 0), (tLi 0), (tLi 0), (tLi 0), (tLi 0), (tLi 0), (tLi 0), .nilsl, .nilsl, .nilsl, (tLi 0), (tLi 0), (tLi 0), (tLi 0), (tLi 0), (tLi 0), (tLi 0), (tLi 0), (tLi 0), (tLi 0), (tLi 0), .nilsl]
abbrev tClone7m0 : Mem := ⟨[(37, tClone7b1), (37, tClone7b4)], ⟨25, 0, 0, 22, 11⟩⟩
abbrev tClone7m1 : Mem := ⟨[(37, tClone7b1), (37, tClone7b4)], ⟨23, 0, 0, 14, 7⟩⟩
abbrev tClone7m2 : Mem := ⟨[(37, tClone7b1), (37, tClone7b4)], ⟨24, 0, 0, 18, 9⟩⟩
set_option maxRecDepth 100000 in
theorem tClone7 : (runF ⟨tt, fns, { loops := [(4, ⟨[(15, .int .i64)], []⟩)], cur := [6] }⟩ (Try.f24.body.getD .skip) Try.f24.results.toList (entry Try.f24.ntmps [.agg [.int .i64 (.var 0), .int .i64 (.var 1), .int .i64 (.var 2), .int .i64 (.var 3), .int .i64 (.var 4), .int .i64 (.var 5), .int .i64 (.var 6), .int .i64 (.var 7), .int .i64 (.var 8), .int .i64 (.var 9), .sl 0 (.var 0) (.var 1), .sl 1 (.var 2) (.var 3), .sl 2 (.var 4) (.var 5), .int .i64 (.var 10), .int .i64 (.var 11), .int .i64 (.var 12), .int .i64 (.var 13), .int .i64 (.var 14), .int .i64 (.var 15), .int .i64 (.var 16), .int .i64 (.var 17), .int .i64 (.var 18), .int .i64 (.var 19), .int .i64 (.var 20), .sl 3 (.var 6) (.var 7)]] [] ⟨21, 0, 0, 8, 4⟩)) =
  (.call 63 [(.agg [(tVi 9), (tSl 0 0 1), (tSl 1 2 3)])] ⟨[(37, tClone7b3), (37, tClone7b4)], ⟨21, 0, 0, 8, 4⟩⟩ (.agg [(tVi 21), (tSl 4 8 9), (tSl 5 10 11)]) ⟨[(37, tClone7b3), (37, tClone7b4)], ⟨22, 0, 0, 12, 6⟩⟩ (.call 64 [(.lf (tSl 2 4 5))] ⟨[(37, tClone7b2), (37, tClone7b4)], ⟨22, 0, 0, 12, 6⟩⟩ (.lf (tSl 6 12 13)) ⟨[(37, tClone7b2), (37, tClone7b4)], ⟨22, 0, 0, 14, 7⟩⟩ (.loop 4 ⟨[(.lit 0)], [], [], [], []⟩ ⟨[(37, tClone7b1), (37, tClone7b4)], ⟨22, 0, 0, 14, 7⟩⟩ tClone7m1 (.br (.cmp .lss (.var 22) (.nat 12)) (.need (.inb 6 (.var 22) (.nat 12)) (.ld .true (.adr 6 (.var 22) 6 3) [(tVi 23), (tSl 7 14 15), (tSl 8 16 17)] tClone7m1 tClone7m2 (.call 63 [(.agg [(tVi 23), (tSl 7 14 15), (tSl 8 16 17)])] tClone7m2 (.agg [(tVi 24), (tSl 9 18 19), (tSl 10 20 21)]) tClone7m0 (.need (.inb 6 (.var 22) (.nat 12)) (.gen (.store 27 (.tmp 29) (.tmp 27)) 0 [(29, (.lf (.adr 6 (.var 22) 6 3))), (27, (.agg [(tVi 24), (tSl 9 18 19), (tSl 10 20 21)]))] tClone7m0 .none tClone7m0 (.again 4 ⟨[(.op .add .i64 (.var 22) (.lit 1))], [], [], [], []⟩ tClone7m0)))))) (.call 65 [(.lf (tSl 3 6 7))] tClone7m1 (.lf (tSl 7 14 15)) ⟨[(37, tClone7b1), (37, tClone7b4)], ⟨23, 0, 0, 16, 8⟩⟩ (.done (.agg tClone7b0) ⟨[(37, tClone7b0), (37, tClone7b0)], ⟨23, 0, 0, 16, 8⟩⟩)))))) := by kernel_rfl
def RwNew (w : World) (sz ty n : Nat) (xs : List Value) (e : Ending) (w' : World) : Prop := ∃ a' c', e = .returned (.slice a' n c') ∧ (HX.rw sz ty a' n c' xs).X w' ∧ (∀ k, (HX.rw sz ty a' n c' xs).F k → w.heap.size ≤ k ∧ k < w'.heap.size) ∧ Below w.heap.size w w'
theorem vocs_len (xs : List (Vo Pv)) : (vocs xs).length = xs.length * 6 := by
  unfold vocs
  induction xs with
  | nil => rfl
  | cons x r ih => rw [List.flatMap_cons, List.length_append, ih]; simp [voC]; omega
theorem vocs_ne {xs : List (Vo Pv)} (h : vocs xs = []) : xs = [] := by
  have := vocs_len xs
  rw [h] at this
  exact List.eq_nil_of_length_eq_zero (by simp at this; omega)
theorem vocs_one (xs : List (Vo Pv)) : ∀ u ∈ vocs xs, u.oneCell' = true := fun u hu => by
  obtain ⟨x, _, h⟩ := List.mem_flatMap.1 hu
  exact voC_one x u h
theorem scloneV_any (a : Option Addr) (cap : Nat) (xs : List (Vo Pv)) (w : World) (H : Cells w a (vocs xs)) (hl : xs.length * 80 ≤ 140737488355328) : Calls Try.prog 64 #[.slice a xs.length cap] w (RwNew w 6 59 xs.length (vocs xs)) := by
  refine calls_at (tab_ok _) Try.func64 rfl tSCloneV (ρ := ⟨[], [], [], [xs.length, cap], [a]⟩) (ids := []) (hx := HX.cl a (vocs xs)) rfl (Facts.initq rfl oneNil H (cl_sep H)) ?_
  by_cases h : a.isNone = true
  · refine br_t h ?_
    obtain rfl : a = none := by simpa using h
    have e2 := vocs_ne (none_nil H)
    subst e2
    intro ids w2 hp hf
    exact ⟨none, 0, rfl, HX.rw_nil _ _ _ _, fun k hk => absurd rfl hk.1, hf.chg.below⟩
  · refine br_f (show a.isNone = false by cases a with | none => exact absurd rfl h | some x => rfl) ?_
    refine node_clones (sz := 6) (xs := vocs xs) rfl Try.underlying28 info_vote rfl (by decide) 0 rfl (fun _ => a) xs.length cap (vocs_len _) (fun ids w2 hp hf => hf.x) (vocs_one xs) (by unfold maxLen; omega) (by omega) (fun _ => rfl) (fun _ => rfl) (fun _ _ _ => rfl) rfl rfl (fun _ _ => rfl) ?_
    intro a' c' hfr ids w2 hp hf
    exact ⟨a', c', rfl, hf.x.2, fun k hk => ⟨(hfr k hk.1 hk.2).1, (hf.sep k (.inr hk)).1⟩, hf.chg.below⟩
theorem scloneB_any (a : Option Addr) (cap : Nat) (bs : List Int) (w : World) (H : Cells w a (bcells bs)) (hl : bs.length ≤ 140737488355328) : Calls Try.prog 65 #[.slice a bs.length cap] w (ClNew w bs.length (bcells bs)) := by
  refine calls_at (tab_ok _) Try.func65 rfl tSCloneB (ρ := ⟨[], [], [], [bs.length, cap], [a]⟩) (ids := []) (hx := HX.cl a (bcells bs)) rfl (Facts.initq rfl oneNil H (cl_sep H)) ?_
  by_cases h : a.isNone = true
  · refine br_t h ?_
    obtain rfl : a = none := by simpa using h
    have e := none_nil H
    have e2 : bs = [] := by unfold bcells at e; simpa using e
    subst e2
    intro ids w2 hp hf
    exact ⟨none, 0, rfl, fun h => by simp [bcells] at h, fun k hk => absurd rfl hk.1, hf.chg.below⟩
  · refine br_f (show a.isNone = false by cases a with | none => exact absurd rfl h | some x => rfl) ?_
    refine node_clones (sz := 1) (xs := bcells bs) rfl Try.underlying35 info_byte rfl (by decide) 0 rfl (fun _ => a) bs.length cap (by rw [bcells_len, Nat.mul_one]) (fun ids w2 hp hf => hf.x) (bcells_one bs) (by unfold maxLen; omega) (by omega) (fun _ => rfl) (fun _ => rfl) (fun _ _ _ => rfl) rfl rfl (fun _ _ => rfl) ?_
    intro a' c' hfr ids w2 hp hf
    exact ⟨a', c', rfl, rw_cells hf.x.2, rw_fresh hf.x.2 (fun k h1 h2 => (hfr k h1 h2).1), hf.chg.below⟩
/-- A message of its own, that is only read. -/
def NewX (w : World) (c : Mc) (e : Ending) (w' : World) : Prop := ∃ m : Ms, e = .returned m.val ∧ m.con = c ∧ m.X.X w' ∧ (∀ k, m.X.F k → w.heap.size ≤ k ∧ k < w'.heap.size) ∧ Below w.heap.size w w'
theorem rw_some {sz e n cap : Nat} {a : Option Addr} {xs : List Value} {w : World} (h : (HX.rw sz e a n cap xs).X w) (hn : 0 < n) : a.isSome = true := by
  have := rw_le h
  obtain ⟨g, cur, e, _⟩ := rw_open h (by omega)
  rw [e]; rfl
def voH (zs : List (Vo Pv)) : HX := HX.all (zs.map fun x => x.v.hx)
theorem voH_snoc (zs : List (Vo Pv)) (z : Vo Pv) : voH (zs ++ [z]) = (voH zs).and z.v.hx := by unfold voH; rw [List.map_append]; exact all_snocV _ _
theorem voH_nil (h : HX) : h.and (voH []) = h := HX.ext (by
    funext k
    exact propext ⟨fun h => h.elim id fun ⟨y, hy, _⟩ => (by cases hy), .inl⟩) (by
    funext w
    exact propext ⟨fun h => h.1, fun h => ⟨h, fun y hy => by cases hy⟩⟩)
theorem vocs_put {zs r : List (Vo Pv)} {x z : Vo Pv} (h1 : z.s = x.s) (h2 : z.r = x.r) (h3 : z.n = x.n) : spl (vocs (zs ++ x :: r)) (zs.length * 6 + 3) z.v.cells = vocs ((zs ++ [z]) ++ r) := by
  have e1 : vocs (zs ++ x :: r) = (vocs zs ++ [.int .i64 x.s, .int .i64 x.r, .int .i64 x.n]) ++ (x.v.cells ++ vocs r) := by simp [vocs, voC, Pv.cells]
  have e2 : vocs ((zs ++ [z]) ++ r) = (vocs zs ++ [.int .i64 x.s, .int .i64 x.r, .int .i64 x.n]) ++ (z.v.cells ++ vocs r) := by simp [vocs, voC, Pv.cells, h1, h2, h3]
  have l1 : (vocs zs ++ [Value.int .i64 x.s, .int .i64 x.r, .int .i64 x.n]).length = zs.length * 6 + 3 := by rw [List.length_append, vocs_len]; rfl
  obtain ⟨A, eA⟩ : ∃ A, A = vocs zs ++ [Value.int .i64 x.s, .int .i64 x.r, .int .i64 x.n] := ⟨_, rfl⟩
  rw [e1, e2, ← eA]
  rw [← eA] at l1
  unfold spl
  rw [← l1, List.take_left, List.append_assoc]
  congr 2
  rw [← List.drop_drop, List.drop_left]
  have l2 : z.v.cells.length = x.v.cells.length := rfl
  rw [l2, List.drop_left]
set_option maxHeartbeats 4000000 in
theorem clone7_any (m : Ms) (w : World) (H : m.X.X w) (hw : MsFit m) (hl : m.vs.length * 80 ≤ 140737488355328) (hd : m.d.length ≤ 140737488355328) : Calls Try.prog 24 #[m.val] w (NewX w m.con) := by
  obtain ⟨B, eB⟩ : ∃ x, x = m.X := ⟨_, rfl⟩
  have BX : ∀ {w}, B.X w → m.X.X w := fun h => by rw [← eB]; exact h
  refine calls_at (tab_ok _) Try.func24 rfl tClone7 (ρ := ⟨m.ints, [], [], m.nats, m.adrs⟩) (ids := []) (hx := B) rfl (Facts.initq rfl oneNil (by rw [eB]; exact H) (by rw [eB]; exact Ms.X_sep H)) ?_
  refine node_vl (V := id) (v := m.p.v) (fun _ => #[m.p.val]) (fun a1 c1 a2 c2 => ⟨[m.p.v.k], [], [], [m.p.v.cs.length, c1, m.p.v.ns.length, c2], [a1, a2]⟩) (by intros; kernel_rfl) (fun ids w2 hp hf => vclone_any _ _ _ _ _ w2 (hw.v.at_ (BX hf.x).1.1)) (by intros; kernel_rfl) (by kernel_rfl) (by kernel_rfl) (by intros; kernel_rfl) (fun _ _ _ _ => oneNil) ?_
  intro a1 c1 a2 c2 f1
  obtain ⟨B1, eB1⟩ : ∃ x, x = B.and (vlX m.p.v a1 a2) := ⟨_, rfl⟩
  rw [← eB1]
  have B1X : ∀ {w}, B1.X w → m.X.X w ∧ (vlX m.p.v a1 a2).X w := fun h => by rw [eB1] at h; exact ⟨BX h.1, h.2⟩
  obtain ⟨xs, exs⟩ : ∃ x, x = m.vs := ⟨_, rfl⟩
  refine node_out (fun _ => #[.slice m.av m.vs.length m.cv]) (fun vs h' => ∃ (b : Option Addr) (d : Nat), vs = ⟨[], [], [], [m.vs.length, d], [b]⟩ ∧ h' = HX.rw 6 59 b m.vs.length d (vocs m.vs)) (by intros; kernel_rfl) (fun ids w2 hp hf => ?_) (by kernel_rfl) (by kernel_rfl) ?_ ?_
  · refine (scloneV_any m.av m.cv m.vs w2 (B1X hf.x).1.1.2.1 hl).mono ?_
    rintro e w' ⟨a', c', rfl, hX, hge, hb⟩
    exact ⟨_, _, ⟨a', c', rfl, rfl⟩, rfl, hX, hge, hb⟩
  · rintro vs h' ⟨b, d, rfl, rfl⟩
    exact ⟨by kernel_rfl, oneNil⟩
  rintro vs h' ⟨b, d, rfl, rfl⟩ fb
  refine ⟨fun vs hx n => ∃ (k : Nat) (zs : List (Vo Pv)), n = m.vs.length - k ∧ k ≤ m.vs.length ∧ zs.length = k ∧ vlsOf zs = (vlsOf m.vs).take k ∧ (∀ j, (voH zs).F j → w.heap.size ≤ j ∧ ¬ (d ≠ 0 ∧ abk b = some j)) ∧ vs = ⟨[(k : Int)], [], [], [], []⟩ ∧ hx = (B1.and (voH zs)).and (HX.rw 6 59 b m.vs.length d (vocs (zs ++ m.vs.drop k))) ∧ (0 < m.vs.length → b.isSome = true), fun ids w2 hp hf => ⟨_, m.vs.length, ⟨hf.x, hf.sep⟩, 0, [], rfl, Nat.zero_le _, rfl, rfl, fun j hj => (by obtain ⟨y, hy, _⟩ := hj; cases hy), by kernel_rfl, (by rw [voH_nil]; rfl), fun hpos => rw_some hf.x.2 hpos⟩, ?_⟩
  rintro vs hx' n hcnt ⟨k, zs, rfl, hk, hzl, hv, hz, rfl, rfl, hsm⟩
  have hbf : ∀ j, d ≠ 0 → abk b = some j → ¬ (B1.and (voH zs)).F j := fun j h1 h2 q => q.elim (fb j ⟨h1, h2⟩).2 fun q => (hz j q).2 ⟨h1, h2⟩
  refine br_D (p := (k : Int) < (m.vs.length : Int)) (by kernel_rfl) (fun hlt => ?_) (fun hlt => ?_)
  · have hlt : k < m.vs.length := by omega
    obtain ⟨x, hx⟩ : ∃ b, m.vs[k]? = some b := ⟨_, List.getElem?_eq_getElem hlt⟩
    have hxm := List.mem_of_getElem? hx
    have edr : m.vs.drop k = x :: m.vs.drop (k + 1) := by
      obtain ⟨h1, h2⟩ := List.getElem?_eq_some_iff.1 hx
      rw [List.drop_eq_getElem_cons h1, h2]
    have hxk : (zs ++ m.vs.drop k)[k]? = some x := by rw [edr, List.getElem?_append_right (by omega), hzl, Nat.sub_self]; rfl
    have hrow : ∀ {w}, ((B1.and (voH zs)).and (HX.rw 6 59 b m.vs.length d (vocs (zs ++ m.vs.drop k)))).X w → Cells w b (vocs (zs ++ m.vs.drop k)) := fun h => rw_cells h.2
    have hsome : b.isSome = true := hsm (by omega)
    refine need_k (b.isSome = true ∧ 0 ≤ (k : Int) ∧ (k : Int) < (m.vs.length : Int)) (by kernel_rfl) ⟨hsome, by omega, by omega⟩ ?_
    refine node_ldk ⟨[x.v.v.k], [], [], [x.v.v.cs.length, x.v.c1, x.v.v.ns.length, x.v.c2], [x.v.a1, x.v.a2]⟩ (fun _ => .pointer (some (((b.getD ⟨0, 0, none⟩).add (k * 6)).add 3))) x.v.cells (by intros; kernel_rfl) (by intros; kernel_rfl) (fun ids w2 hp hf => ?_) (by kernel_rfl) oneNil ?_
    · exact (flat_part voc_len (hrow hf.x) hxk (o := 3) x.v.cells (fun j u hj => by
        rcases j with _ | _ | _ | j
        · exact hj
        · exact hj
        · exact hj
        · simp [Pv.cells] at hj) (by simp [Pv.cells])).2 _ id
    refine node_vl (V := id) (v := x.v.v) (fun _ => #[x.v.val]) (fun a1 c1 a2 c2 => ⟨[x.v.v.k], [], [], [x.v.v.cs.length, c1, x.v.v.ns.length, c2], [a1, a2]⟩) (by intros; kernel_rfl) (fun ids w2 hp hf => vclone_any _ _ _ _ _ w2 ((hw.vs x hxm).at_ ((B1X hf.x.1.1).1.1.2.2 _ (List.mem_map.2 ⟨x, hxm, rfl⟩)))) (by intros; kernel_rfl) (by kernel_rfl) (by kernel_rfl) (by intros; kernel_rfl) (fun _ _ _ _ => oneNil) ?_
    intro y1 d1 y2 d2 fy
    obtain ⟨z, ez⟩ : ∃ z : Vo Pv, z = ⟨x.s, x.r, x.n, ⟨x.v.v, y1, d1, y2, d2⟩⟩ := ⟨_, rfl⟩
    have ezx : vlX x.v.v y1 y2 = z.v.hx := by rw [ez]; rfl
    rw [ezx] at fy
    refine need_k (b.isSome = true ∧ 0 ≤ (k : Int) ∧ (k : Int) < (m.vs.length : Int)) (by kernel_rfl) ⟨hsome, by omega, by omega⟩ ?_
    refine holds_eq (show ((B1.and (voH zs)).and (HX.rw 6 59 b m.vs.length d (vocs (zs ++ m.vs.drop k)))).and (vlX x.v.v y1 y2) = (B1.and (voH (zs ++ [z]))).and (HX.rw 6 59 b m.vs.length d (vocs (zs ++ m.vs.drop k))) by rw [ezx, HX.and_right_comm, voH_snoc, HX.and_assoc B1]) ?_
    have hz' : ∀ j, (voH (zs ++ [z])).F j → w.heap.size ≤ j ∧ ¬ (d ≠ 0 ∧ abk b = some j) := fun j hj => by
      rw [voH_snoc] at hj
      rcases hj with hj | hj
      · exact hz j hj
      · exact ⟨(fy j hj).1, fun q => (fy j hj).2 (.inr q)⟩
    have hbf' : ∀ j, d ≠ 0 → abk b = some j → ¬ (B1.and (voH (zs ++ [z]))).F j := fun j h1 h2 q => q.elim (fb j ⟨h1, h2⟩).2 fun q => (hz' j q).2 ⟨h1, h2⟩
    refine node_stores (sz := 6) b m.vs.length d (vocs (zs ++ m.vs.drop k)) z.v.cells k 3 z.v.val (by kernel_rfl) (by intros; kernel_rfl) (fun ids => by rw [ez]; kernel_rfl) rfl (fun u hu => by simp only [Pv.cells, List.mem_cons, List.not_mem_nil, or_false] at hu; rcases hu with rfl | rfl | rfl <;> rfl) (by simp [Pv.cells]; omega) (by simp [Pv.cells]) hbf' (fun j h1 h2 => .inl (fb j ⟨h1, h2⟩).1) (by kernel_rfl) (by kernel_rfl) (by kernel_rfl) ?_
    have hwk : IntKind.i64.wrap ((k : Int) + 1) = ((k + 1 : Nat) : Int) := by rw [wrap_i64 (by omega)]; omega
    have hput : spl (vocs (zs ++ m.vs.drop k)) (k * 6 + 3) z.v.cells = vocs ((zs ++ [z]) ++ m.vs.drop (k + 1)) := by rw [edr, ← hzl]; exact vocs_put (by rw [ez]) (by rw [ez]) (by rw [ez])
    rw [hput]
    have hzv : Vo.map Pv.v z = Vo.map Pv.v x := by rw [ez]; rfl
    refine again_V ⟨[IntKind.i64.wrap ((k : Int) + 1)], [], [], [], []⟩ rfl (by intros; kernel_rfl) _ (fun w2 ids hf => ⟨hf.x, hf.sep⟩) ⟨m.vs.length - (k + 1), by omega, k + 1, zs ++ [z], rfl, by omega, by rw [List.length_append, hzl]; rfl, ?_, hz', (by rw [hwk]), rfl, hsm⟩
    rw [List.take_add_one, vlsOf_get hx, ← hv]
    unfold vlsOf
    rw [List.map_append, ← hzv]; rfl
  · obtain rfl : k = m.vs.length := by omega
    have hv' : vlsOf zs = vlsOf m.vs := by rw [hv]; exact List.take_of_length_le (by rw [vlsOf_len]; exact Nat.le_refl _)
    refine node_cl (n := m.d.length) (xs := bcells m.d) (fun _ => #[.slice m.ad m.d.length m.cd]) (fun a' c' => ⟨[], [], [], [m.d.length, c'], [a']⟩) (by intros; kernel_rfl) (fun ids w2 hp hf => scloneB_any m.ad m.cd m.d w2 (B1X hf.x.1.1).1.2 hd) (by intros; kernel_rfl) (by kernel_rfl) (by kernel_rfl) (by intros; kernel_rfl) (fun _ _ => oneNil) ?_
    intro ad cd fd ids w2 hp hf
    have hrw : (HX.rw 6 59 b m.vs.length d (vocs zs)).X w2 := by have := hf.x.1.2; rw [List.drop_length, List.append_nil] at this; exact this
    refine ⟨{ m with p := ⟨m.p.v, a1, c1, a2, c2⟩, av := b, cv := d, vs := zs, ad := ad, cd := cd }, ?_, ?_, ⟨⟨(B1X hf.x.1.1.1).2, rw_cells hrw, hf.x.1.1.2⟩, hf.x.2⟩, fun q hq => ?_, hf.chg.below⟩
    · rw [← hzl]; kernel_rfl
    · unfold Ms.con; dsimp only; rw [hv']
    · rcases hq with (hq | (hq | hq)) | hq
      · exact ⟨(f1 q hq).1, (hf.sep q (.inl (.inl (.inl (by rw [eB1]; exact .inr hq))))).1⟩
      · have := rw_fresh hrw (N := w.heap.size) (fun j h1 h2 => (fb j ⟨h1, h2⟩).1) q hq
        exact ⟨this, cl_sep (rw_cells hrw) q hq⟩
      · exact ⟨(hz q hq).1, (hf.sep q (.inl (.inl (.inr hq)))).1⟩
      · exact ⟨(fd q hq).1, (hf.sep q (.inr hq)).1⟩
end Go.Proofs.Ytadgaefmoobcoaa
