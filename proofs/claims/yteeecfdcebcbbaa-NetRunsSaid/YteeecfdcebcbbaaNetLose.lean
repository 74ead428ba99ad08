/- The net's Lose. -/
import Derived.Test.YteeecfdcebcbbaaNetL
import Derived.Test.YteeecfdcebcbbaaEng24
namespace Go.Proofs.Yteeecfdcebcbbaa
open Go.ChangeShapes Go.WideShapes Go.ChangeAt Go.RowKit Go.Syn Go.Eng
set_option linter.unusedVariables false
set_option linter.unusedSimpArgs false
set_option maxRecDepth 100000 in
theorem tLose1 : (runF ⟨tt, fns, {}⟩ (Try.f24.body.getD .skip) Try.f24.results.toList (entry Try.f24.ntmps [.agg [.int .i64 (.var 1), .int .i64 (.var 2), .sl 0 (.var 0) (.var 1)], .lf (.ptr 0 0)] [(3, [.int .i64 (.var 0)])] ⟨3, 0, 0, 2, 1⟩)) =
  (.br (.cmp .eql (.var 1) (.var 0)) (.done (.lf (.bool (.lit .true))) ⟨[(3, [(.int .i64 (.var 0))]), (30, [(.int .i64 (.var 1)), (.int .i64 (.var 2)), (.sl 0 (.var 0) (.var 1))])], ⟨3, 0, 0, 2, 1⟩⟩) (.done (.lf (.bool (.cmp .eql (.var 2) (.var 0)))) ⟨[(3, [(.int .i64 (.var 0))]), (30, [(.int .i64 (.var 1)), (.int .i64 (.var 2)), (.sl 0 (.var 0) (.var 1))])], ⟨3, 0, 0, 2, 1⟩⟩)) := by kernel_rfl
set_option maxRecDepth 100000 in
theorem tIdxF : (runF ⟨tt, fns, {cur := [0], loops := [(2, ⟨[(8, .int .i64)], []⟩)]}⟩ (Try.f25.body.getD .skip) Try.f25.results.toList (entry Try.f25.ntmps [.lf (.sl 0 (.var 0) (.var 1)), .lf (.fnv 24 [(0, 0)])] [(3, [.int .i64 (.var 0)])] ⟨1, 0, 0, 2, 1⟩)) =
  (.loop 2 ⟨[(.lit 0)], [], [], [], []⟩ ⟨[(3, [(.int .i64 (.var 0))])], ⟨1, 0, 0, 2, 1⟩⟩ ⟨[(3, [(.int .i64 (.var 0))])], ⟨2, 0, 0, 2, 1⟩⟩ (.br (.cmp .lss (.var 1) (.nat 0)) (.need (.inb 0 (.var 1) (.nat 0)) (.ld .true (.adr 0 (.var 1) 3 0) [(.int .i64 (.var 2)), (.int .i64 (.var 3)), (.sl 1 (.var 2) (.var 3))] ⟨[(3, [(.int .i64 (.var 0))])], ⟨2, 0, 0, 2, 1⟩⟩ ⟨[(3, [(.int .i64 (.var 0))])], ⟨4, 0, 0, 4, 2⟩⟩ (.call 24 [(.agg [(.int .i64 (.var 2)), (.int .i64 (.var 3)), (.sl 1 (.var 2) (.var 3))]), (.lf (.ptr 0 0))] ⟨[(3, [(.int .i64 (.var 0))])], ⟨4, 0, 0, 4, 2⟩⟩ (.lf (.bool (.var 0))) ⟨[(3, [(.int .i64 (.var 0))])], ⟨4, 1, 0, 4, 2⟩⟩ (.br (.var 0) (.done (.lf (.int .i64 (.var 1))) ⟨[(3, [(.int .i64 (.var 0))])], ⟨4, 1, 0, 4, 2⟩⟩) (.again 2 ⟨[(.op .add .i64 (.var 1) (.lit 1))], [], [], [], []⟩ ⟨[(3, [(.int .i64 (.var 0))])], ⟨4, 1, 0, 4, 2⟩⟩))))) (.done (.lf (.int .i64 (.lit (-1)))) ⟨[(3, [(.int .i64 (.var 0))])], ⟨2, 0, 0, 2, 1⟩⟩))) := by kernel_rfl
set_option maxRecDepth 100000 in
theorem tDelF : (runF ⟨tt, fns, {cur := [0], loops := [(5, ⟨[(5, .int .i64), (6, .int .i64)], []⟩)]}⟩ (Try.f23.body.getD .skip) Try.f23.results.toList (entry Try.f23.ntmps [.lf (.sl 0 (.var 0) (.var 1)), .lf (.fnv 24 [(0, 0)])] [(3, [.int .i64 (.var 0)])] ⟨1, 0, 0, 2, 1⟩)) =
  (.call 25 [(.lf (.sl 0 (.var 0) (.var 1))), (.lf (.fnv 24 [(0, 0)]))] ⟨[(3, [(.int .i64 (.var 0))])], ⟨1, 0, 0, 2, 1⟩⟩ (.lf (.int .i64 (.var 1))) ⟨[(3, [(.int .i64 (.var 0))])], ⟨2, 0, 0, 2, 1⟩⟩ (.br (.cmp .eql (.var 1) (.lit (-1))) (.done (.lf (.sl 0 (.var 0) (.var 1))) ⟨[(3, [(.int .i64 (.var 0))])], ⟨2, 0, 0, 2, 1⟩⟩) (.loop 5 ⟨[(.var 1), (.op .add .i64 (.var 1) (.lit 1))], [], [], [], []⟩ ⟨[(3, [(.int .i64 (.var 0))])], ⟨2, 0, 0, 2, 1⟩⟩ ⟨[(3, [(.int .i64 (.var 0))])], ⟨4, 0, 0, 2, 1⟩⟩ (.br (.cmp .lss (.var 3) (.nat 0)) (.need (.inb 0 (.var 3) (.nat 0)) (.ld .true (.adr 0 (.var 3) 3 0) [(.int .i64 (.var 4)), (.int .i64 (.var 5)), (.sl 1 (.var 2) (.var 3))] ⟨[(3, [(.int .i64 (.var 0))])], ⟨4, 0, 0, 2, 1⟩⟩ ⟨[(3, [(.int .i64 (.var 0))])], ⟨6, 0, 0, 4, 2⟩⟩ (.call 24 [(.agg [(.int .i64 (.var 4)), (.int .i64 (.var 5)), (.sl 1 (.var 2) (.var 3))]), (.lf (.ptr 0 0))] ⟨[(3, [(.int .i64 (.var 0))]), (30, [(.int .i64 (.var 4)), (.int .i64 (.var 5)), (.sl 1 (.var 2) (.var 3))])], ⟨6, 0, 0, 4, 2⟩⟩ (.lf (.bool (.var 0))) ⟨[(3, [(.int .i64 (.var 0))]), (30, [(.int .i64 (.var 4)), (.int .i64 (.var 5)), (.sl 1 (.var 2) (.var 3))])], ⟨6, 1, 0, 4, 2⟩⟩ (.br (.not (.var 0)) (.need (.inb 0 (.var 2) (.nat 0)) (.gen (.store 30 (.tmp 33) (.tmp 32)) 0 [(33, (.lf (.adr 0 (.var 2) 3 0))), (32, (.agg [(.int .i64 (.var 4)), (.int .i64 (.var 5)), (.sl 1 (.var 2) (.var 3))]))] ⟨[(3, [(.int .i64 (.var 0))]), (30, [(.int .i64 (.var 4)), (.int .i64 (.var 5)), (.sl 1 (.var 2) (.var 3))])], ⟨6, 1, 0, 4, 2⟩⟩ .none ⟨[(3, [(.int .i64 (.var 0))]), (30, [(.int .i64 (.var 4)), (.int .i64 (.var 5)), (.sl 1 (.var 2) (.var 3))])], ⟨6, 1, 0, 4, 2⟩⟩ (.again 5 ⟨[(.op .add .i64 (.var 2) (.lit 1)), (.op .add .i64 (.var 3) (.lit 1))], [], [], [], []⟩ ⟨[(3, [(.int .i64 (.var 0))]), (30, [(.int .i64 (.var 4)), (.int .i64 (.var 5)), (.sl 1 (.var 2) (.var 3))])], ⟨6, 1, 0, 4, 2⟩⟩))) (.again 5 ⟨[(.var 2), (.op .add .i64 (.var 3) (.lit 1))], [], [], [], []⟩ ⟨[(3, [(.int .i64 (.var 0))]), (30, [(.int .i64 (.var 4)), (.int .i64 (.var 5)), (.sl 1 (.var 2) (.var 3))])], ⟨6, 1, 0, 4, 2⟩⟩))))) (.gen (.slice 38 (.tmp 36) (.some (.tmp 37)) .none .none) 38 [(36, (.lf (.sl 0 (.var 0) (.var 1)))), (37, (.lf (.int .i64 (.var 2))))] ⟨[(3, [(.int .i64 (.var 0))])], ⟨4, 0, 0, 2, 1⟩⟩ (.some (.lf (.sl 1 (.var 2) (.var 3)))) ⟨[(3, [(.int .i64 (.var 0))])], ⟨4, 0, 0, 4, 2⟩⟩ (.gen (.call ⟨(.builtin .clear), #[(.tmp 38)], #[38]⟩) 0 [(38, (.lf (.sl 1 (.var 2) (.var 3))))] ⟨[(3, [(.int .i64 (.var 0))])], ⟨4, 0, 0, 4, 2⟩⟩ (.some (.tup [])) ⟨[(3, [(.int .i64 (.var 0))])], ⟨4, 0, 0, 4, 2⟩⟩ (.gen (.slice 38 (.tmp 39) .none (.some (.tmp 40)) .none) 38 [(39, (.lf (.sl 0 (.var 0) (.var 1)))), (40, (.lf (.int .i64 (.var 2))))] ⟨[(3, [(.int .i64 (.var 0))])], ⟨4, 0, 0, 4, 2⟩⟩ (.some (.lf (.sl 2 (.var 4) (.var 5)))) ⟨[(3, [(.int .i64 (.var 0))])], ⟨4, 0, 0, 6, 3⟩⟩ (.done (.lf (.sl 2 (.var 4) (.var 5))) ⟨[(3, [(.int .i64 (.var 0))])], ⟨4, 0, 0, 6, 3⟩⟩)))))))) := by kernel_rfl
set_option maxRecDepth 100000 in
theorem tNLose : (runF ⟨tt, fns, {}⟩ (Try.f18.body.getD .skip) Try.f18.results.toList (entry Try.f18.ntmps [.lf (.ptr 0 0), .lf (.int .i64 (.var 0))] [(49, [.sl 0 (.var 0) (.var 1)])] ⟨1, 0, 0, 2, 1⟩)) =
  (.call 11 [(.lf (.ptr 0 0))] ⟨[(49, [(.sl 0 (.var 0) (.var 1))]), (3, [(.int .i64 (.var 0))])], ⟨1, 0, 0, 2, 1⟩⟩ (.lf (.int .i64 (.var 1))) ⟨[(49, [(.sl 0 (.var 0) (.var 1))]), (3, [(.int .i64 (.var 0))])], ⟨2, 0, 0, 2, 1⟩⟩ (.call 23 [(.lf (.sl 0 (.var 0) (.var 1))), (.lf (.fnv 24 [(1, 0)]))] ⟨[(49, [(.sl 0 (.var 0) (.var 1))]), (3, [(.int .i64 (.var 0))])], ⟨2, 0, 0, 2, 1⟩⟩ (.lf (.sl 1 (.var 2) (.var 3))) ⟨[(49, [(.sl 0 (.var 0) (.var 1))]), (3, [(.int .i64 (.var 0))])], ⟨2, 0, 0, 4, 2⟩⟩ (.call 11 [(.lf (.ptr 0 0))] ⟨[(49, [(.sl 1 (.var 2) (.var 3))]), (3, [(.int .i64 (.var 0))])], ⟨2, 0, 0, 4, 2⟩⟩ (.lf (.int .i64 (.var 2))) ⟨[(49, [(.sl 1 (.var 2) (.var 3))]), (3, [(.int .i64 (.var 0))])], ⟨3, 0, 0, 4, 2⟩⟩ (.done (.lf (.int .i64 (.op .sub .i64 (.var 1) (.var 2)))) ⟨[(49, [(.sl 1 (.var 2) (.var 3))]), (3, [(.int .i64 (.var 0))])], ⟨3, 0, 0, 4, 2⟩⟩)))) := by kernel_rfl
def keepQ (node : Int) (p : Pk) : Bool := decide (p.f ≠ node) && decide (p.t ≠ node)
theorem lose1_any (p : Pk) (node : Int) (b : Nat) (w : World) (hb : Blk w b [.int .i64 node] 3) : Calls Try.prog 24 #[.agg p.cells.toArray, .pointer (some ⟨b, 0, none⟩)] w (PureAt w (.bool (!keepQ node p))) := by
  refine calls_at (tab_ok _) Try.func24 rfl tLose1 (ρ := ⟨[node, p.f, p.t], [], [], [p.bs.length, p.c], [p.a]⟩) (ids := [b]) (hx := HX.nil) (M := fun x => x = b) rfl (Facts.init1 rfl oneNil hb rfl) ?_
  have fin : ∀ {ρ : Env} {L : Stack} {v : SV} {r : List (Nat × List LV)} {n : Cnt} {cs : List LV}, (∀ ids, v.den ρ ids = .bool (!keepQ node p)) → (∀ ids, cellsDen ρ ids cs = [.int .i64 node]) → (Tree.done v ⟨(3, cs) :: r, n⟩).holds ⟨Try.prog, w, fun x => x = b, PureAt w (.bool (!keepQ node p))⟩ ρ [b] HX.nil L := fun hv hcs ids w' hp hf => by
    have h0 := hf.blkAt 0 rfl
    rw [idAt0 hp, hcs ids] at h0
    exact ⟨by rw [hv ids], (Chg.same hf.chg (h0.trans hb.symm)).below⟩
  by_cases h1 : p.f = node
  · exact br_t (show (p.f == node) = true by simpa using h1) (fin (fun _ => by simp [keepQ, h1]; rfl) (fun _ => rfl))
  · refine br_f (show (p.f == node) = false by simpa using h1) (fin (fun _ => ?_) (fun _ => rfl))
    show Value.bool (p.t == node) = _
    by_cases h2 : p.t = node <;> simp [keepQ, h1, h2]
def IdxR (ps : List Pk) (node r : Int) : Prop := (r = -1 ∧ ∀ p ∈ ps, keepQ node p = true) ∨ ∃ (k : Nat) (p : Pk), r = (k : Int) ∧ (∀ q ∈ ps.take k, keepQ node q = true) ∧ ps[k]? = some p ∧ keepQ node p = false
def IxI (a : Option Addr) (ps : List Pk) (node : Int) (vs : Vals) (hx : HX) : Prop := ∃ k : Nat, k ≤ ps.length ∧ (∀ q ∈ ps.take k, keepQ node q = true) ∧ vs = ⟨[(k : Int)], [], [], [], []⟩ ∧ hx = HX.cl a (pcells ps)
set_option maxRecDepth 100000 in
theorem idxf_any (a : Option Addr) (cap : Nat) (ps : List Pk) (node : Int) (b : Nat) (w : World) (H : Cells w a (pcells ps)) (hb : Blk w b [.int .i64 node] 3) (hsep : ∀ k, (HX.cl a (pcells ps)).F k → k ≠ b) (hl : ps.length ≤ 1000000) :
    Calls Try.prog 25 #[.slice a ps.length cap, (Value.func (.func 24) #[] #[.pointer (some ⟨b, 0, none⟩)])] w fun e w' => ∃ r, e = .returned (.int .i64 r) ∧ IdxR ps node r ∧ Below w.heap.size w w' := by
  refine calls_at (tab_ok _) Try.func25 rfl tIdxF (ρ := ⟨[node], [], [], [ps.length, cap], [a]⟩) (ids := [b]) (hx := HX.cl a (pcells ps)) (M := fun x => x = b) rfl (Facts.initx rfl oneNil hb rfl rfl H (fun k hk => ⟨cl_sep H k hk, hsep k hk⟩)) ?_
  refine loop_i (IxI a ps node) (fun vs => ps.length - (vs.i.headD 0).toNat) (fun ids w2 hp hf => ⟨_, ⟨hf.x, hf.sep⟩, 0, by omega, fun q hq => by simp at hq, rfl, rfl⟩) ?_
  rintro vs hx' hcnt ⟨k, hk1, hkeep, rfl, rfl⟩
  have hwk : IntKind.i64.wrap ((k : Int) + 1) = ((k + 1 : Nat) : Int) := by rw [wrap_i64 (by omega)]; omega
  have same : ∀ {ids : List Nat} {w2 : World} {m : Mem} {ρ : Env} {hx : HX}, [b] <+: ids → Facts ⟨Try.prog, w, fun x => x = b, fun e w' => ∃ r, e = .returned (.int .i64 r) ∧ IdxR ps node r ∧ Below w.heap.size w w'⟩ m ρ ids hx w2 → w2.heap[idAt ids 0]? = some (.cells #[.int .i64 node] 3 (0, 0)) → Below w.heap.size w w2 := fun hp hf h0 => by
    rw [idAt0 hp] at h0
    exact (Chg.same hf.chg (h0.trans hb.symm)).below
  by_cases hk : k < ps.length
  · refine br_t (show decide ((k : Int) < (ps.length : Int)) = true by simpa using hk) ?_
    obtain ⟨p, hpk⟩ : ∃ p, ps[k]? = some p := ⟨_, List.getElem?_eq_getElem hk⟩
    have elt := fun {w2 : World} (h : Cells w2 a (pcells ps)) => cl_elt h (i := k) (sz := 3) p.cells (fun j u hj => pcells_get hpk j u hj) (by simp [Pk.cells])
    refine need_i ⟨(elt H).1, (show (0 : Int) ≤ k by omega), (show (k : Int) < ps.length by omega)⟩ ?_
    refine node_ld ⟨[p.f, p.t], [], [], [p.bs.length, p.c], [p.a]⟩ (fun ids w2 hp hf => (elt hf.x).2 _ (fun e => e)) (fun ids w2 hf => ⟨rfl, oneNil⟩) ?_
    refine node_pure ⟨[], [!keepQ node p], [], [], []⟩ rfl rfl rfl oneNil (fun ids w2 hp hf => lose1_any p node (idAt ids 0) w2 (hf.blkAt 0 rfl)) ?_
    rcases Bool.eq_false_or_eq_true (keepQ node p) with hq | hq
    · refine br_f (show (!keepQ node p) = false by rw [hq]; rfl) ?_
      intro ids w2 hp hf
      refine ⟨_, ⟨hf.x, hf.sep⟩, _, rfl, ⟨k + 1, by omega, fun q hqm => ?_, ?_, rfl⟩, ?_⟩
      · rw [List.take_add_one, hpk] at hqm
        rcases List.mem_append.1 hqm with h | h
        · exact hkeep q h
        · simp at h; subst h; exact hq
      · show (⟨[IntKind.i64.wrap ((k : Int) + 1)], [], [], [], []⟩ : Vals) = _
        rw [hwk]
      · show ps.length - (IntKind.i64.wrap ((k : Int) + 1)).toNat < ps.length - ((k : Int)).toNat
        rw [hwk]; omega
    · refine br_t (show (!keepQ node p) = true by rw [hq]; rfl) ?_
      exact fun ids w2 hp hf => ⟨(k : Int), rfl, .inr ⟨k, p, rfl, hkeep, hpk, hq⟩, same hp hf (hf.blkAt 0 rfl)⟩
  · refine br_f (show decide ((k : Int) < (ps.length : Int)) = false by simpa using hk) ?_
    exact fun ids w2 hp hf => ⟨-1, rfl, .inl ⟨rfl, fun p hp => hkeep p (by rw [List.take_of_length_le (by omega)]; exact hp)⟩, same hp hf (hf.blkAt 0 rfl)⟩
theorem run_clear_n {w : World} {g : Nat} {cur : List Value} (ty : Nat) {o k c : Nat} (hg : w.heap[g]? = some (.cells cur.toArray 30 (0, 0))) (hk : 0 < k) (ho : o + k * 3 ≤ cur.length) :
    ∃ w' zs, (Builtin.clear_ #[38] ty #[.slice (some ⟨g, o, none⟩) k c]).run Try.prog w = .ok (.tuple #[]) w' ∧ zs.length = k * 3 ∧ w'.heap[g]? = some (.cells (spl cur o zs).toArray 30 (0, 0)) ∧ w.grownBy w' (some g) := by
  have hzl : (Builtin.zeroCells (Value.agg #[.int .i64 0, .int .i64 0, .slice none 0 0]).cells k).toList.length = k * 3 := by
    rw [Array.length_toList, size_zeroCells]; rfl
  have hz1 : ∀ v ∈ (Builtin.zeroCells (Value.agg #[.int .i64 0, .int .i64 0, .slice none 0 0]).cells k).toList, v.oneCell' = true := fun v hv => by
    simp only [Builtin.zeroCells, Array.toList_map, List.mem_map] at hv
    obtain ⟨i, _, rfl⟩ := hv
    have h3 : i % (Value.agg #[.int .i64 0, .int .i64 0, .slice none 0 0]).cells.size < 3 := Nat.mod_lt _ (by decide)
    generalize i % (Value.agg #[.int .i64 0, .int .i64 0, .slice none 0 0]).cells.size = j at h3
    match j, h3 with
    | 0, _ => rfl
    | 1, _ => rfl
    | 2, _ => rfl
  obtain ⟨w', hr, h2, h3⟩ := run_store_blk (P := Try.prog) (o := o) hg (by rw [hzl]; exact ho) hz1
  refine ⟨w', _, ?_, hzl, h2, h3⟩
  obtain ⟨k', rfl⟩ : ∃ k', k = k' + 1 := ⟨k - 1, by omega⟩
  simp [Builtin.clear_, run_underlying Try.underlying38, zero_pk, hr]
section
variable {C : Cfg} {ρ : Env} {pre : List Nat} {rest : HX} {L : Stack} {m m' : Mem} {ty : Nat} {ps : List (Nat × SV)} {t : Tree} {g : Nat} {cap : Nat}
/-- 'clear(s[i:])' on a row: what lies ahead stays. -/
theorem node_clear_row {xo : Operand} {ac : Go.Call} {r : SV} {n i c : Nat} {xs : List Value} (hP : C.P = Try.prog) (hac : ac = { callee := .builtin .clear, args := #[xo], argTypes := #[38] }) (hi : i < n) (hxo : ∀ ids, envOf ρ ids ps xo = .slice (some ⟨g, i * 3, none⟩) (n - i) c)
    (hM : C.W.heap.size ≤ g ∨ C.M g) (hdis : ¬ rest.F g) (hr : ∀ ids, r.den (ρ.add Vals.nil) ids = .tuple #[]) (hhp : m'.hp = m.hp) (hfit : hpFits m.c m.hp.length m.hp = true) (hc : (ρ.add Vals.nil).cnt = m'.c)
    (h : t.holds C (ρ.add Vals.nil) pre (rest.and (HX.rw 3 30 (some ⟨g, 0, none⟩) i cap (xs.take (i * 3)))) L) :
    (Tree.gen (.call ac) ty ps m (some r) m' t).holds C ρ pre (rest.and (HX.rw 3 30 (some ⟨g, 0, none⟩) n cap xs)) L := by
  intro ids w hp hf
  subst hac
  unfold GenRun
  have hrow : (HX.rw 3 30 (some ⟨g, 0, none⟩) n cap xs).X w := hf.x.2
  have hle := rw_le hrow
  have hc0 : cap ≠ 0 := by omega
  obtain ⟨g', cur, e, hlt, hg, hnc, hcm, hcl, htk⟩ := rw_open hrow hc0
  cases e
  obtain ⟨w', zs, hrun, hzl, h2, h3⟩ := run_clear_n (c := c) ty hg (show 0 < n - i by omega) (show i * 3 + (n - i) * 3 ≤ cur.length by omega)
  have hsl : (spl cur (i * 3) zs).length = cap * 3 := by rw [spl_len (by omega)]; exact hcl
  have hX := rw_shut (n := i) hc0 h2 (by omega) hcm hsl
  have htk2 : (spl cur (i * 3) zs).take (i * 3) = xs.take (i * 3) := by
    rw [← htk]
    unfold spl
    rw [List.append_assoc, List.take_append_of_le_length (by rw [List.length_take]; omega), List.take_take, List.take_take]
    congr 1; omega
  rw [htk2] at hX
  simp only [execOp, resolve, invoke, builtin, hxo, hP, Sem.run_bind, Sem.run_pure, Result.andThen_ok, List.map_toArray, List.map_cons, List.map_nil, hrun]
  refine ⟨_, ids, rest.and (HX.rw 3 30 (some ⟨g, 0, none⟩) i cap (xs.take (i * 3))), ?_, List.prefix_refl _, hf.turn h3 (fun b hb => by cases hb; exact ⟨.inr ⟨hc0, rfl⟩, hM⟩) ⟨rest.loc w w' hf.x.1 fun k hk => h3.block k (hf.sep k (.inl hk)).1 (fun q => hdis (by cases q; exact hk)), hX⟩ (fun k hk => .inl hk) hhp hfit hc oneNil, holds_pre t hp h⟩
  simp only [Option.map_some, hr]
end
theorem pcells_take : ∀ (ps : List Pk) (k : Nat), pcells (ps.take k) = (pcells ps).take (k * 3)
  | [], k => by simp [pcells]
  | p :: r, 0 => by simp [pcells]
  | p :: r, k + 1 => by
    have hl : p.cells.length = 3 := rfl
    show p.cells ++ pcells (r.take k) = (p.cells ++ pcells r).take ((k + 1) * 3)
    rw [pcells_take r k, List.take_append, hl, List.take_of_length_le (l := p.cells) (by rw [hl]; omega), show (k + 1) * 3 - 3 = k * 3 by omega]
def DelFR (w : World) (a : Option Addr) (cap : Nat) (ps : List Pk) (node : Int) (e : Ending) (w' : World) : Prop :=
  e = .returned (.slice a (ps.filter (keepQ node)).length cap) ∧ (HX.rw 3 30 a (ps.filter (keepQ node)).length cap (pcells (ps.filter (keepQ node)))).X w' ∧ ∃ row, w.grownBy w' row ∧ ∀ k, row = some k → cap ≠ 0 ∧ abk a = some k
def DfI (a : Option Addr) (cap : Nat) (ps : List Pk) (node : Int) (vs : Vals) (hx : HX) : Prop :=
  ∃ (j : Nat) (mid : List Value), j ≤ ps.length ∧ ((ps.take j).filter (keepQ node)).length < j ∧ mid.length = (j - ((ps.take j).filter (keepQ node)).length) * 3 ∧ (∀ u ∈ mid, u.oneCell' = true) ∧ vs = ⟨[(((ps.take j).filter (keepQ node)).length : Int), (j : Int)], [], [], [], []⟩ ∧
    hx = HX.nil.and (HX.rw 3 30 a ps.length cap (pcells ((ps.take j).filter (keepQ node)) ++ mid ++ (pcells ps).drop (j * 3)))
set_option maxHeartbeats 4000000 in
set_option maxRecDepth 100000 in
theorem delf_any (a : Option Addr) (cap : Nat) (ps : List Pk) (node : Int) (b : Nat) (w : World) (H : (HX.rw 3 30 a ps.length cap (pcells ps)).X w) (hb : Blk w b [.int .i64 node] 3) (hsep : ∀ k, (HX.rw 3 30 a ps.length cap (pcells ps)).F k → k ≠ b) (hl : ps.length ≤ 1000000) :
    Calls Try.prog 23 #[.slice a ps.length cap, (Value.func (.func 24) #[] #[.pointer (some ⟨b, 0, none⟩)])] w (DelFR w a cap ps node) := by
  obtain ⟨hcl, hclF⟩ := rw_cl H
  have hrs : ∀ k, (HX.rw 3 30 a ps.length cap (pcells ps)).F k → k < w.heap.size := fun k hk => by
    obtain ⟨g, _, rfl, q, _⟩ := rw_open H hk.1
    have := hk.2; cases this; exact q
  refine calls_at (tab_ok _) Try.func23 rfl tDelF (ρ := ⟨[node], [], [], [ps.length, cap], [a]⟩) (ids := [b]) (hx := HX.nil.and (HX.rw 3 30 a ps.length cap (pcells ps))) (M := fun x => x = b ∨ (cap ≠ 0 ∧ abk a = some x)) rfl (Facts.initx rfl oneNil hb rfl (.inl rfl) ⟨trivial, H⟩ (fun k hk => hk.elim (fun h => h.elim) fun hk => ⟨hrs k hk, hsep k hk⟩)) ?_
  intro ids w2 hp hf
  have hids0 := idAt0 hp
  have hcl2 := rw_cl hf.x.2
  refine (idxf_any a cap ps node (idAt ids 0) w2 hcl2.1 (hf.blkAt 0 rfl) (fun k hk => ?_) hl).mono ?_
  · rw [hids0]; exact hsep k (hcl2.2 k hk)
  rintro e w3 ⟨r, rfl, hR, hbel⟩
  have hg : w2.grownBy w3 none := ⟨hbel.os, hbel.tape, hbel.output, hbel.size, fun k hk _ => hbel.block k hk⟩
  have hf3 := hf.turn (m' := ⟨[(3, [.int .i64 (.var 0)])], ⟨2, 0, 0, 2, 1⟩⟩) (vs := ⟨[r], [], [], [], []⟩) (hx' := HX.nil.and (HX.rw 3 30 a ps.length cap (pcells ps))) hg (fun b e => by cases e) ((HX.nil.and (HX.rw 3 30 a ps.length cap (pcells ps))).loc w2 w3 hf.x fun k hk => hbel.block k (hf.sep k hk).1) (fun k hk => .inl hk) rfl rfl rfl oneNil
  refine ⟨⟨[r], [], [], [], []⟩, ids, _, rfl, List.prefix_refl _, hf3, ?_⟩
  refine holds_pre _ hp ?_
  have chg : ∀ {w4 : World} {ids4 : List Nat} {m : Mem} {ρ : Env} {hx : HX}, [b] <+: ids4 → Facts ⟨Try.prog, w, fun x => x = b ∨ (cap ≠ 0 ∧ abk a = some x), DelFR w a cap ps node⟩ m ρ ids4 hx w4 → w4.heap[idAt ids4 0]? = some (.cells #[.int .i64 node] 3 (0, 0)) → ∃ row, w.grownBy w4 row ∧ ∀ k, row = some k → cap ≠ 0 ∧ abk a = some k := fun hp4 hf4 h0 => by
    rw [idAt0 hp4] at h0
    have hsame := h0.trans hb.symm
    refine ⟨if cap ≠ 0 then abk a else none, ⟨hf4.chg.os, hf4.chg.tape, hf4.chg.output, hf4.chg.size, fun k hk hne => ?_⟩, fun k hk => ?_⟩
    · by_cases q : k = b
      · subst q; exact hsame
      · refine hf4.chg.block k hk fun q2 => ?_
        rcases q2 with q2 | ⟨q2, q3⟩
        · exact q q2
        · rw [if_pos q2] at hne; exact hne q3.symm
    · by_cases q : cap ≠ 0
      · rw [if_pos q] at hk; exact ⟨q, hk⟩
      · rw [if_neg q] at hk; cases hk
  rcases hR with ⟨rfl, hall⟩ | ⟨k0, p0, rfl, hpre, hp0, hk0⟩
  · refine br_t rfl ?_
    intro ids4 w4 hp4 hf4
    have ef : ps.filter (keepQ node) = ps := List.filter_eq_self.2 hall
    refine ⟨by rw [ef]; rfl, by rw [ef]; exact hf4.x.2, chg hp4 hf4 (hf4.blkAt 0 rfl)⟩
  · have hk0l : k0 < ps.length := by
      rcases Nat.lt_or_ge k0 ps.length with q | q
      · exact q
      · rw [List.getElem?_eq_none q] at hp0; cases hp0
    have hle := rw_le H
    have hc0 : cap ≠ 0 := by omega
    obtain ⟨g, _, rfl, _⟩ := rw_open H hc0
    have hw1 : IntKind.i64.wrap ((k0 : Int) + 1) = ((k0 + 1 : Nat) : Int) := by rw [wrap_i64 (by omega)]; omega
    have ef0 : (ps.take (k0 + 1)).filter (keepQ node) = ps.take k0 := by
      rw [List.take_add_one, hp0, List.filter_append, List.filter_eq_self.2 hpre]
      show _ ++ [p0].filter (keepQ node) = _
      rw [List.filter_cons, hk0]; simp
    have hl0 : (ps.take k0).length = k0 := by rw [List.length_take]; omega
    refine br_f (show ((k0 : Int) == -1) = false by simp) ?_
    refine loop_i (DfI (some ⟨g, 0, none⟩) cap ps node) (fun vs => ps.length - (vs.i.getD 1 0).toNat) (fun ids4 w4 hp4 hf4 => ⟨_, ⟨hf4.x, hf4.sep⟩, k0 + 1, ((pcells ps).drop (k0 * 3)).take 3, by omega, by have := congrArg List.length ef0; omega, ?_, fun u hu => pcells_one ps u (List.mem_of_mem_drop (List.mem_of_mem_take hu)), ?_, ?_⟩) ?_
    · have e9 := congrArg List.length ef0
      rw [e9, hl0, List.length_take, List.length_drop, pcells_len, Nat.min_eq_left (by omega), show k0 + 1 - k0 = 1 by omega]
    · show (⟨[(k0 : Int), IntKind.i64.wrap ((k0 : Int) + 1)], [], [], [], []⟩ : Vals) = _
      rw [hw1, ef0, hl0]
    · rw [ef0]
      have e1 := pcells_take ps k0
      rw [e1, List.append_assoc, show (k0 + 1) * 3 = k0 * 3 + 3 by omega, ← List.drop_drop, List.take_append_drop, List.take_append_drop]
    rintro vs hx' hcnt ⟨j, mid, hj, hij, hmid, hone, rfl, rfl⟩
    have hwj : IntKind.i64.wrap ((j : Int) + 1) = ((j + 1 : Nat) : Int) := by rw [wrap_i64 (by omega)]; omega
    obtain ⟨F, hFj⟩ : ∃ F, (ps.take j).filter (keepQ node) = F := ⟨_, rfl⟩
    rw [hFj] at hij hmid ⊢
    have hpd : ((pcells ps).drop (j * 3)).length = (ps.length - j) * 3 := by rw [List.length_drop, pcells_len]; omega
    by_cases hjn : j < ps.length
    · refine br_t (show decide ((j : Int) < (ps.length : Int)) = true by simpa using hjn) ?_
      obtain ⟨p, hpj⟩ : ∃ p, ps[j]? = some p := ⟨_, List.getElem?_eq_getElem hjn⟩
      have step : (ps.take (j + 1)).filter (keepQ node) = F ++ if keepQ node p then [p] else [] := by
        rw [List.take_add_one, hpj, List.filter_append, hFj]
        show _ ++ [p].filter (keepQ node) = _
        rw [List.filter_cons, List.filter_nil]
      have hcell : ∀ t u, p.cells[t]? = some u → (pcells F ++ mid ++ (pcells ps).drop (j * 3))[j * 3 + t]? = some u := fun t u hu => by
        rw [List.getElem?_append_right (by rw [List.length_append, pcells_len, hmid]; omega), List.length_append, pcells_len, hmid, List.getElem?_drop, show j * 3 + (j * 3 + t - (F.length * 3 + (j - F.length) * 3)) = j * 3 + t by omega]
        exact pcells_get hpj t u hu
      have hdrop : (pcells ps).drop (j * 3) = p.cells ++ (pcells ps).drop ((j + 1) * 3) := by
        refine List.ext_getElem? fun t => ?_
        rw [List.getElem?_drop]
        rcases Nat.lt_or_ge t 3 with q | q
        · rw [List.getElem?_append_left (show t < p.cells.length from q)]
          obtain ⟨u, hu⟩ : ∃ u, p.cells[t]? = some u := ⟨_, List.getElem?_eq_getElem (show t < p.cells.length from q)⟩
          rw [hu]; exact pcells_get hpj t u hu
        · rw [List.getElem?_append_right (show p.cells.length ≤ t from q), List.getElem?_drop]
          congr 1
          show j * 3 + t = (j + 1) * 3 + (t - 3)
          omega
      refine need_i ⟨rfl, (show (0 : Int) ≤ j by omega), (show (j : Int) < ps.length by omega)⟩ ?_
      refine node_ld ⟨[p.f, p.t], [], [], [p.bs.length, p.c], [p.a]⟩ (fun ids w2 hp hf => (cl_elt (rw_cells hf.x.2) (i := j) (sz := 3) p.cells (fun t u hu => hcell t u hu) (by simp [Pk.cells])).2 _ (fun e => e)) (fun ids w2 hf => ⟨rfl, oneNil⟩) ?_
      refine node_pure ⟨[], [!keepQ node p], [], [], []⟩ rfl rfl rfl oneNil (fun ids w2 hp hf => lose1_any p node (idAt ids 0) w2 (hf.blkAt 0 rfl)) ?_
      rcases Bool.eq_false_or_eq_true (keepQ node p) with hq | hq
      · refine br_t (show (!!keepQ node p) = true by rw [hq]; rfl) ?_
        refine need_i ⟨rfl, ?_, ?_⟩ ?_
        · show (0 : Int) ≤ (F.length : Int); omega
        · show (F.length : Int) < ps.length; omega
        refine node_stores (sz := 3) (some ⟨g, 0, none⟩) ps.length cap _ p.cells F.length 0 (.agg p.cells.toArray) (by kernel_rfl) (fun _ => rfl) (fun _ => rfl) rfl (by simp [Pk.cells, Value.oneCell']) (show F.length * 3 + 0 + 3 ≤ ps.length * 3 by omega) (show 0 < 3 by decide) (fun q _ _ h => h) (fun q h1 h2 => .inr (Or.inr ⟨h1, h2⟩)) rfl rfl rfl ?_
        intro ids4 w4 hp4 hf4
        have espl : spl (pcells F ++ mid ++ (pcells ps).drop (j * 3)) (F.length * 3 + 0) p.cells = pcells (F ++ [p]) ++ (mid.drop 3 ++ p.cells) ++ (pcells ps).drop ((j + 1) * 3) := by
          unfold spl
          have hm3 : 3 ≤ mid.length := by omega
          rw [Nat.add_zero, List.append_assoc (pcells F), List.take_append_of_le_length (by rw [pcells_len]; exact Nat.le_refl _), List.take_of_length_le (by rw [pcells_len]; exact Nat.le_refl _), List.drop_append, pcells_len, List.drop_of_length_le (by rw [pcells_len]; omega), List.nil_append]
          show _ ++ ((mid ++ (pcells ps).drop (j * 3)).drop (F.length * 3 + 3 - F.length * 3)) = _
          rw [show F.length * 3 + 3 - F.length * 3 = 3 by omega, List.drop_append_of_le_length hm3, hdrop]
          simp [pcells, Pk.cells]
        refine ⟨_, ⟨hf4.x, hf4.sep⟩, _, rfl, ⟨j + 1, mid.drop 3 ++ p.cells, by omega, ?_, ?_, fun u hu => ?_, ?_, ?_⟩, ?_⟩
        · rw [step, hq]; simp; omega
        · rw [step, hq, List.length_append, List.length_drop, hmid]
          show (j - F.length) * 3 - 3 + 3 = (j + 1 - (F ++ [p]).length) * 3
          rw [List.length_append, List.length_singleton]; omega
        · rcases List.mem_append.1 hu with h | h
          · exact hone u (List.mem_of_mem_drop h)
          · simp [Pk.cells] at h; rcases h with rfl | rfl | rfl <;> rfl
        · show (⟨[IntKind.i64.wrap ((F.length : Int) + 1), IntKind.i64.wrap ((j : Int) + 1)], [], [], [], []⟩ : Vals) = _
          rw [hwj, wrap_i64 (by omega), step, hq]
          simp
        · rw [step, hq, espl]; rfl
        · show ps.length - (IntKind.i64.wrap ((j : Int) + 1)).toNat < ps.length - ((j : Int)).toNat
          rw [hwj]; omega
      · refine br_f (show (!!keepQ node p) = false by rw [hq]; rfl) ?_
        intro ids4 w4 hp4 hf4
        refine ⟨_, ⟨hf4.x, hf4.sep⟩, _, rfl, ⟨j + 1, mid ++ p.cells, by omega, ?_, ?_, fun u hu => ?_, ?_, ?_⟩, ?_⟩
        · rw [step, hq]; simp; omega
        · rw [step, hq, List.length_append, hmid]
          show (j - F.length) * 3 + 3 = (j + 1 - (F ++ []).length) * 3
          rw [List.append_nil]; omega
        · rcases List.mem_append.1 hu with h | h
          · exact hone u h
          · simp [Pk.cells] at h; rcases h with rfl | rfl | rfl <;> rfl
        · show (⟨[(F.length : Int), IntKind.i64.wrap ((j : Int) + 1)], [], [], [], []⟩ : Vals) = _
          rw [hwj, step, hq]; simp
        · rw [step, hq, hdrop]; simp
        · show ps.length - (IntKind.i64.wrap ((j : Int) + 1)).toNat < ps.length - ((j : Int)).toNat
          rw [hwj]; omega
    · refine br_f (show decide ((j : Int) < (ps.length : Int)) = false by simpa using hjn) ?_
      have ejn : j = ps.length := by omega
      subst ejn
      have eF : ps.filter (keepQ node) = F := by rw [← hFj, List.take_of_length_le (Nat.le_refl _)]
      have hadd : (if cap = F.length then (some ⟨g, 0, none⟩ : Option Addr) else (some (⟨g, 0, none⟩ : Addr)).map (·.add (F.length * 3))) = some ⟨g, F.length * 3, none⟩ := by
        rw [if_neg (by omega)]
        show some ((⟨g, 0, none⟩ : Addr).add (F.length * 3)) = some _
        rw [Go.WideShapes.add_plain, Nat.zero_add]
      refine node_slice_pk rfl (some ⟨g, 0, none⟩) ps.length cap F.length ps.length cap (fun _ => rfl) (fun ids w => slice_l _ ps.length cap F.length (by omega) w) (fun _ => rfl) rfl rfl rfl ?_
      refine node_clear_row (i := F.length) (c := cap - F.length) rfl rfl (by omega) (fun _ => by show Value.slice (if cap = F.length then (some ⟨g, 0, none⟩ : Option Addr) else (some (⟨g, 0, none⟩ : Addr)).map (·.add (F.length * 3))) (ps.length - F.length) (cap - F.length) = _; rw [hadd]) (.inr (Or.inr ⟨hc0, rfl⟩)) (fun h => h) (fun _ => rfl) rfl rfl rfl ?_
      refine node_slice_pk rfl (some ⟨g, 0, none⟩) ps.length cap 0 F.length cap (fun _ => rfl) (fun ids w => slice_h _ ps.length cap F.length (by omega) w) (fun _ => rfl) rfl rfl rfl ?_
      intro ids4 w4 hp4 hf4
      have hrow := hf4.x.2
      rw [List.append_assoc, List.take_append_of_le_length (by rw [pcells_len]; exact Nat.le_refl _), List.take_of_length_le (by rw [pcells_len]; exact Nat.le_refl _)] at hrow
      refine ⟨?_, by rw [eF]; exact hrow, chg hp4 hf4 (hf4.blkAt 0 rfl)⟩
      rw [eF]
      show Ending.returned (.slice (if cap = 0 then (some ⟨g, 0, none⟩ : Option Addr) else (some (⟨g, 0, none⟩ : Addr)).map (·.add (0 * 3))) (F.length - 0) (cap - 0)) = _
      rw [if_neg hc0]; rfl
def keepD (node : Int) (p : PkD) : Bool := decide (p.f ≠ node) && decide (p.t ≠ node)
theorem filter_d (ps : List Pk) (node : Int) : (ps.filter (keepQ node)).map Pk.d = (ps.map Pk.d).filter (keepD node) := by
  rw [List.filter_map]; rfl
set_option maxRecDepth 100000 in
theorem lose_any (nb : Nat) (a : Option Addr) (cap : Nat) (ps : List Pk) (node : Int) (w : World) (H : NetAt w nb a cap ps) (hl : ps.length ≤ 1000000) :
    Calls Try.prog 18 #[.pointer (some ⟨nb, 0, none⟩), .int .i64 node] w (NetR w nb a cap ps ((ps.map Pk.d).filter (keepD node)) (.int .i64 ((ps.length : Int) - ((ps.map Pk.d).filter (keepD node)).length))) := by
  refine calls_at (tab_ok _) Try.func18 rfl tNLose (ρ := ⟨[node], [], [], [ps.length, cap], [a]⟩) (ids := [nb]) (hx := netHX a cap ps) (M := fun x => x = nb ∨ (cap ≠ 0 ∧ abk a = some x)) rfl (Facts.initx rfl oneNil H.blk rfl (.inl rfl) H.mem H.sep) ?_
  refine node_pure ⟨[(ps.length : Int)], [], [], [], []⟩ rfl rfl rfl oneNil (fun ids w2 hp hf => len_any (idAt ids 0) a cap ps.length w2 (hf.blkAt 0 rfl)) ?_
  intro ids w2 hp hf
  have hmem1 : idAt ids 1 ∈ ids := idAt_mem (by rw [hf.len]; decide)
  refine (delf_any a cap ps node (idAt ids 1) w2 hf.x.2 (hf.blkAt 1 rfl) (fun k hk e => (hf.sep k (.inr hk)).2 (e ▸ hmem1)) hl).mono ?_
  rintro e w' ⟨rfl, hX, row, hg, hrow⟩
  have hdF : ∀ k, (HX.dats (ps.filter (keepQ node))).F k → (HX.dats ps).F k := fun k ⟨q, hq, h5⟩ => ⟨q, (List.mem_filter.1 hq).1, h5⟩
  have hdats : (HX.dats ps).X w' := (HX.dats ps).loc w2 w' hf.x.1 fun k hk => hg.block k (hf.sep k (.inl hk)).1 fun q => by
    obtain ⟨h1, h2⟩ := hrow k q.symm
    exact H.apart k h1 h2 hk
  refine ⟨⟨[], [], [], [(ps.filter (keepQ node)).length, cap], [a]⟩, ids, (HX.dats ps).and (HX.rw 3 30 a (ps.filter (keepQ node)).length cap (pcells (ps.filter (keepQ node)))), rfl, List.prefix_refl _, hf.turn (hx' := (HX.dats ps).and (HX.rw 3 30 a (ps.filter (keepQ node)).length cap (pcells (ps.filter (keepQ node))))) hg (fun b e => ?_) ⟨hdats, hX⟩ (fun k hk => .inl hk) rfl rfl rfl oneNil, ?_⟩
  · obtain ⟨h1, h2⟩ := hrow b e
    exact ⟨.inr ⟨h1, h2⟩, .inr (Or.inr ⟨h1, h2⟩)⟩
  refine holds_pre _ hp ?_
  refine node_pure ⟨[((ps.filter (keepQ node)).length : Int)], [], [], [], []⟩ rfl rfl rfl oneNil (fun ids w2 hp hf => len_any (idAt ids 0) a cap (ps.filter (keepQ node)).length w2 (hf.blkAt 0 rfl)) ?_
  have hfl := List.length_filter_le (keepQ node) ps
  refine net_done a cap (ps.filter (keepQ node)) (fun ids => ?_) (fun _ => rfl) (filter_d ps node) (fun k h1 h2 hF => H.apart k h1 h2 (hdF k hF)) (fun k h1 h2 => .inl ⟨h1, h2⟩) (fun k hk => hk.elim (fun h => .inl (hdF k h)) .inr) (fun w' h => ⟨fun q hq => h.1 q (List.mem_filter.1 hq).1, h.2⟩) (fun k hk => .inl (hk.elim (fun h => .inl (hdF k h)) .inr))
  show Value.int .i64 (IntKind.i64.wrap ((ps.length : Int) - ((ps.filter (keepQ node)).length : Int))) = _
  rw [wrap_i64 (by omega), ← filter_d, List.length_map]
end Go.Proofs.Yteeecfdcebcbbaa
