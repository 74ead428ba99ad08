/- Part 16 of the texts of a proof about the given program: what the statement's proof needs of them. -/
import Derived.Test.YtlgpjjgkdpmidaaKProposerBound15
namespace Go.Proofs.Ytlgpjjgkdpmidaa
open Go.ChangeShapes Go.WideShapes Go.ChangeAt Go.RowKit Go.Syn Go.Eng
set_option linter.unusedVariables false
set_option linter.unusedSimpArgs false
set_option maxRecDepth 100000
abbrev tCpVs7b0 : List LV := [(tVi 1), (tVi 2), (tVi 3), (tVi 5), (tSl 4 8 9), (tSl 5 10 11)]
abbrev tCpVs7b1 : List LV := [(tVi 1), (tVi 2), (tVi 3), (tVi 4), (tSl 2 4 5), (tSl 3 6 7)]
abbrev tCpVs7m0 : Mem := ⟨[(49, []), (49, tCpVs7b0), (49, tCpVs7b0)], ⟨6, 0, 0, 14, 7⟩⟩
set_option maxRecDepth 100000 in
theorem tCpVs7 : (runF ⟨tt, fns, {loops := [(3, ⟨[(9, .int .i64), (3, .sl)], []⟩)]}⟩ (Try.f11.body.getD .skip) Try.f11.results.toList (entry Try.f11.ntmps [.lf (.sl 0 (.var 0) (.var 1))] [] ⟨0, 0, 0, 2, 1⟩)) =
  (.loop 3 ⟨[(.lit 0)], [], [], [(.lit 0), (.lit 0)], [(.nm 0 0)]⟩ ⟨[(49, [])], ⟨0, 0, 0, 2, 1⟩⟩ ⟨[(49, [])], ⟨1, 0, 0, 4, 2⟩⟩ (.br (.cmp .lss (.var 0) (.nat 0)) (.need (.inb 0 (.var 0) (.nat 0)) (.ld .false (.adr 0 (.var 0) 6 0) tCpVs7b1 ⟨[(49, [])], ⟨1, 0, 0, 4, 2⟩⟩ ⟨[(49, [])], ⟨5, 0, 0, 8, 4⟩⟩ (.call 18 [(.agg [(tVi 4), (tSl 2 4 5), (tSl 3 6 7)])] ⟨[(49, []), (49, tCpVs7b1)], ⟨5, 0, 0, 8, 4⟩⟩ (.agg [(tVi 5), (tSl 4 8 9), (tSl 5 10 11)]) ⟨[(49, []), (49, tCpVs7b1)], ⟨6, 0, 0, 12, 6⟩⟩ (.gen (.call ⟨(.builtin .append), #[(.tmp 20), (.tmp 22)], #[32, 32]⟩) 32 [(20, (.lf (tSl 1 2 3))), (22, (.lf (.nsl 2 0 1 1)))] ⟨[(49, []), (49, tCpVs7b0), (49, tCpVs7b0)], ⟨6, 0, 0, 12, 6⟩⟩ (.some (.lf (tSl 6 12 13))) tCpVs7m0 (.again 3 ⟨[(.op .add .i64 (.var 0) (.lit 1))], [], [], [(.var 12), (.var 13)], [(.var 6)]⟩ tCpVs7m0))))) (.done (.lf (tSl 1 2 3)) ⟨[(49, [])], ⟨1, 0, 0, 4, 2⟩⟩))) := by kernel_rfl
section
variable {C : Cfg} {ρ : Env} {pre : List Nat} {hx rest : HX} {L : Stack} {m m' : Mem} {ty : Nat} {ps : List (Nat × SV)} {t : Tree}
theorem node_slen {st : TypeId} {xo : Operand} {ac : Go.Call} {r : SV} (vs : Vals) (hac : ac = { callee := .builtin .len, args := #[xo], argTypes := #[st] }) (s : ByteArray) (hmo : ∀ ids, envOf ρ ids ps xo = .string s)
    (ht : C.P.underlying st = some .string) (hr : ∀ ids, r.den (ρ.add vs) ids = .int .i64 (s.data.toList.length : Int)) (hhp : m'.hp = m.hp) (hfit : hpFits m.c m.hp.length m.hp = true) (hc : (ρ.add vs).cnt = m'.c) (h1 : ∀ v, v ∈ vs.v → v.oneCell' = true)
    (h : t.holds C (ρ.add vs) pre hx L) : (Tree.gen (.call ac) ty ps m (some r) m' t).holds C ρ pre hx L := by
  subst hac
  refine node_gpure (V := .int .i64 (s.data.toList.length : Int)) vs (fun ids w hp hf => ?_) hr hhp hfit hc h1 h
  have hg : goInt s.size = Value.int .i64 (s.data.toList.length : Int) := by
    unfold goInt
    rw [Array.length_toList]; rfl
  simp only [execOp, resolve, invoke, builtin, hmo, Sem.run_bind, Sem.run_pure, Result.andThen_ok, List.map_toArray, List.map_cons, List.map_nil]
  simp [Builtin.len_, run_underlying ht, Result.andThen, hg]
theorem node_sidx {st : TypeId} {xo io : Operand} {r : SV} (vs : Vals) (s : ByteArray) (i : Nat) (b : UInt8) (hxo : ∀ ids, envOf ρ ids ps xo = .string s) (hio : ∀ ids, envOf ρ ids ps io = .int .i64 (i : Int)) (hb : s.data.toList[i]? = some b)
    (ht : C.P.underlying st = some .string) (hr : ∀ ids, r.den (ρ.add vs) ids = .int .u8 (b.toNat : Int)) (hhp : m'.hp = m.hp) (hfit : hpFits m.c m.hp.length m.hp = true) (hc : (ρ.add vs).cnt = m'.c) (h1 : ∀ v, v ∈ vs.v → v.oneCell' = true)
    (h : t.holds C (ρ.add vs) pre hx L) : (Tree.gen (.index st xo io) ty ps m (some r) m' t).holds C ρ pre hx L := by
  refine node_gpure (V := .int .u8 (b.toNat : Int)) vs (fun ids w hp hf => ?_) hr hhp hfit hc h1 h
  have hb2 : s[i]? = some b := by
    rw [Array.getElem?_toList] at hb
    exact hb
  simp only [execOp, hxo, hio]
  simp [Instr.index, asIntOf, run_underlying ht, Result.andThen, hb2]
end
theorem rvalid_any (r n : Int) (w : World) : Calls Try.prog 35 #[.agg #[.int .i64 r, .int .i64 n]] w (PureAt w (.bool (balB r n))) := refValid_any r n w
def usL : List ByteArray := [⟨#[]⟩, ⟨#[98, 115]⟩, ⟨#[98, 115, 108, 111]⟩, ⟨#[98]⟩, ⟨#[98, 115, 118]⟩, ⟨#[98, 115, 118]⟩, ⟨#[98, 115, 116]⟩, ⟨#[98, 116]⟩, ⟨#[115]⟩, ⟨#[115, 118]⟩, ⟨#[115, 108, 100]⟩, ⟨#[115, 108]⟩, ⟨#[115, 108, 100]⟩, ⟨#[99]⟩, ⟨#[99, 114]⟩]
def usesS (k : Int) : ByteArray := if k < 1 then ⟨#[]⟩ else if k > 14 then ⟨#[]⟩ else usL.getD k.toNat ⟨#[]⟩
def hasB (s : ByteArray) (c : Int) : Bool := s.data.toList.any fun b => ((b.toNat : Nat) : Int) == c
theorem ruses_any (k : Int) (w : World) : Calls Try.prog 33 #[.int .i64 k] w (PureAt w (.string (usesS k))) := by
  refine calls_at (tab_ok _) Try.func33 rfl tRUses (ρ := ⟨[k], [], [], [], []⟩) (ids := []) rfl (Facts.initP rfl oneNil) ?_
  unfold usesS
  refine br_D (p := k < 1) (by kernel_rfl) (fun h => pure_done fun _ => by rw [if_pos h]; rfl) (fun h => ?_)
  rw [if_neg h]
  refine br_D (p := k > 14) (by kernel_rfl) (fun h2 => pure_done fun _ => by rw [if_pos h2]; rfl) (fun h2 => ?_)
  rw [if_neg h2]
  obtain ⟨i, rfl⟩ : ∃ i : Nat, k = (i : Int) := ⟨k.toNat, by omega⟩
  refine need_k (0 ≤ (i : Int) ∧ (i : Int) < 15) (by kernel_rfl) ⟨by omega, by omega⟩ ?_
  have hi : i < usL.length := by have : usL.length = 15 := rfl; omega
  refine node_ldp ⟨[], [], [.string (usL.getD i ⟨#[]⟩)], [], []⟩ i rfl rfl (us := usL.map Value.string) (by intros; kernel_rfl) (fun ids j u hj => ?_) (by kernel_rfl) (fun v hv => by simp only [List.mem_singleton] at hv; subst hv; rfl) ?_
  · cases j with
    | zero =>
      have hj : some (Value.string (usL.getD i ⟨#[]⟩)) = some u := hj
      rw [Nat.zero_add, Nat.mul_one, Nat.add_zero, List.getElem?_map, List.getElem?_eq_getElem hi, ← hj, List.getD, List.getElem?_eq_getElem hi]; rfl
    | succ j => cases hj
  rw [Int.toNat_natCast]
  exact pure_done (by intros; kernel_rfl)
theorem any_drop {α : Type} (f : α → Bool) {l : List α} {i : Nat} {b : α} (h : l[i]? = some b) : (l.drop i).any f = (f b || (l.drop (i + 1)).any f) := by
  obtain ⟨hi, e⟩ := List.getElem?_eq_some_iff.1 h
  rw [List.drop_eq_getElem_cons hi, e, List.any_cons]
theorem rhas_any (s : ByteArray) (c : Int) (hl : s.data.toList.length ≤ 1000) (w : World) : Calls Try.prog 34 #[.string s, .int .u8 c] w (PureAt w (.bool (hasB s c))) := by
  refine calls_at (tab_ok _) Try.func34 rfl tRHas (ρ := ⟨[c], [], [.string s], [], []⟩) (ids := []) (hx := HX.nil) rfl (Facts.initP rfl (fun v hv => by simp only [List.mem_singleton] at hv; subst hv; rfl)) ?_
  obtain ⟨l, el⟩ : ∃ x, x = s.data.toList := ⟨_, rfl⟩
  have hB : hasB s c = l.any fun b => ((b.toNat : Nat) : Int) == c := by rw [el]; rfl
  rw [hB]
  refine ⟨fun vs hx n => ∃ i : Nat, n = l.length - i ∧ i ≤ l.length ∧ vs = ⟨[(i : Int)], [], [], [], []⟩ ∧ (l.any fun b => ((b.toNat : Nat) : Int) == c) = ((l.drop i).any fun b => ((b.toNat : Nat) : Int) == c) ∧ HX.nil = hx, fun ids w2 hp hf => ⟨_, l.length, ⟨hf.x, hf.sep⟩, 0, rfl, Nat.zero_le _, by kernel_rfl, rfl, rfl⟩, ?_⟩
  rintro vs hx' n hcnt ⟨i, rfl, hi, rfl, he, rfl⟩
  refine holds_env (ρ' := ⟨[c, (i : Int)], [], [.string s], [], []⟩) rfl ?_
  refine node_slen ⟨[(l.length : Int)], [], [], [], []⟩ rfl s (by intros; kernel_rfl) Try.underlying9 (fun _ => by rw [← el]; rfl) (by kernel_rfl) (by kernel_rfl) (by kernel_rfl) oneNil ?_
  refine br_D (p := (i : Int) < (l.length : Int)) (by kernel_rfl) (fun hk => ?_) (fun hk => pure_done fun _ => by rw [he, List.drop_eq_nil_of_le (by omega)]; rfl)
  obtain ⟨b, hb⟩ : ∃ b, l[i]? = some b := ⟨_, List.getElem?_eq_getElem (by omega)⟩
  have hst := any_drop (fun b : UInt8 => ((b.toNat : Nat) : Int) == c) hb
  refine node_sidx ⟨[((b.toNat : Nat) : Int)], [], [], [], []⟩ s i b (by intros; kernel_rfl) (by intros; kernel_rfl) (by rw [← el]; exact hb) Try.underlying9 (by intros; kernel_rfl) (by kernel_rfl) (by kernel_rfl) (by kernel_rfl) oneNil ?_
  refine br_B (((b.toNat : Nat) : Int) == c) (by kernel_rfl) (fun h => pure_done fun _ => by rw [he, hst, h]; rfl) (fun h => ?_)
  rw [← el] at hl
  have hwi : IntKind.i64.wrap ((i : Int) + 1) = ((i + 1 : Nat) : Int) := by rw [wrap_i64 (by omega)]; omega
  exact again_V ⟨[IntKind.i64.wrap ((i : Int) + 1)], [], [], [], []⟩ rfl (by intros; kernel_rfl) _ (fun w2 ids hf => ⟨hf.x, hf.sep⟩) ⟨l.length - (i + 1), by omega, i + 1, rfl, by omega, by rw [hwi], by rw [he, hst, h, Bool.false_or], rfl⟩
def pvR (p : Pv) : HX := (crow p.a1 p.v.cs.length p.c1 p.v.cs).and (nrow p.a2 p.v.ns.length p.c2 p.v.ns)
def vrow (a : Option Addr) (c : Nat) (vs : List (Vo Pv)) : HX := HX.rw 6 49 a vs.length c (vocs vs)
def voAll (vs : List (Vo Pv)) : HX := HX.all (vs.map fun x => pvR x.v)
theorem voC_one (x : Vo Pv) : ∀ v ∈ voC x, v.oneCell' = true := fun v hv => by
  simp only [voC, List.mem_cons, List.not_mem_nil, or_false] at hv
  rcases hv with rfl | rfl | rfl | rfl | rfl | rfl <;> rfl
theorem vocs_snoc (xs : List (Vo Pv)) (x : Vo Pv) : vocs xs ++ voC x = vocs (xs ++ [x]) := by unfold vocs; rw [List.flatMap_append]; simp
theorem info_vote : (Try.prog.info? 49).map (fun i => (i.zero, i.size, i.bytes)) = some (some (.agg #[.int .i64 0, .int .i64 0, .int .i64 0, .int .i64 0, .slice none 0 0, .slice none 0 0]), 6, 80) := by kernel_rfl
theorem all_snocV (xs : List HX) (x : HX) : HX.all (xs ++ [x]) = (HX.all xs).and x := HX.ext (by
    funext k
    refine propext ⟨fun ⟨y, hy, hk⟩ => ?_, fun h => ?_⟩
    · rcases List.mem_append.1 hy with hy | hy
      · exact .inl ⟨y, hy, hk⟩
      · rw [List.mem_singleton.1 hy] at hk; exact .inr hk
    · rcases h with ⟨y, hy, hk⟩ | hk
      · exact ⟨y, List.mem_append_left _ hy, hk⟩
      · exact ⟨x, List.mem_append_right _ (List.mem_singleton.2 rfl), hk⟩) (by
    funext w
    refine propext ⟨fun h => ⟨fun y hy => h y (List.mem_append_left _ hy), h x (List.mem_append_right _ (List.mem_singleton.2 rfl))⟩, fun h y hy => ?_⟩
    rcases List.mem_append.1 hy with hy | hy
    · exact h.1 y hy
    · rw [List.mem_singleton.1 hy]; exact h.2)
theorem voAll_snoc (xs : List (Vo Pv)) (x : Vo Pv) : voAll (xs ++ [x]) = (voAll xs).and (pvR x.v) := by unfold voAll; rw [List.map_append]; exact all_snocV _ _
def OwnR (W : World) (B : HX) (X : HX) : Prop := ∀ k, X.F k → W.heap.size ≤ k ∧ ¬ B.F k
section
variable {C : Cfg} {ρ : Env} {pre : List Nat} {hx : HX} {L : Stack} {m m' : Mem} {t : Tree}
theorem node_ldx {l : LV} {cs : List LV} (vs : Vals) (V : Value) (us : List Value) (hl : ∀ ids, l.den ρ ids = V) (hcs : ∀ ids, cellsDen (ρ.add vs) ids cs = us) (hcell : CellsAt C.W V us C.M) (hc : (ρ.add vs).cnt = m'.c ∧ (ρ.add vs).v = []) (h : t.holds C (ρ.add vs) pre hx L) : (Tree.ld false l cs m m' t).holds C ρ pre hx L :=
  ⟨vs, fun ids => by rw [hl, hcs]; exact hcell, ⟨hc.1, fun v hv => by rw [hc.2] at hv; cases hv⟩, h⟩
end
section
variable {w : World} {a : Option Addr} {xs : List (Vo Pv)}
theorem vo_part (h : (voX a xs).X w) {i : Nat} {x : Vo Pv} (hi : xs[i]? = some x) (o : Nat) (us : List Value) (hu : ∀ j u, us[j]? = some u → (voC x)[o + j]? = some u) (h0 : us ≠ []) : a.isSome = true ∧ CellsAt w (.pointer (some (((a.getD ⟨0, 0, none⟩).add (i * 6)).add o))) us (fun _ => False) := by
  obtain ⟨h1, h2⟩ := flat_part voc_len h.1 hi (o := o) us hu h0
  exact ⟨h1, h2 _ id⟩
def prevF (f0 : Int) (xs : List (Vo Pv)) (k : Nat) : Int := if k = 0 then f0 else match xs[k - 1]? with | some y => y.s + 1 | none => f0
theorem rchkvs_any (cap : Nat) (f0 : Int) (w : World) (H : (voX a xs).X w) (hf : ∀ x ∈ xs, VlFit x.v.v) (hI : ∀ x ∈ xs, I64 x.s) : Calls Try.prog 36 #[.slice a xs.length cap, .int .i64 f0] w (PureAt w (.int .i64 (chkVs f0 (vlsOf xs)))) := by
  refine calls_at (tab_ok _) Try.func36 rfl tRChkVs (ρ := ⟨[f0], [], [], [xs.length, cap], [a]⟩) (ids := []) (hx := voX a xs) rfl (Facts.initq rfl oneNil H (voX_sep H)) ?_
  have hl : (vlsOf xs).length = xs.length := List.length_map _
  refine br_D (p := (xs.length : Int) > 64) (by kernel_rfl) (fun h => pure_done fun _ => ?_) (fun h => ?_)
  · unfold chkVs; rw [if_pos (by omega)]; rfl
  have hc : chkVs f0 (vlsOf xs) = vsE f0 (vlsOf xs) := by unfold chkVs; rw [if_neg (by omega)]
  rw [hc]
  refine ⟨fun vs hx m => ∃ (k : Nat), m = xs.length - k ∧ k ≤ xs.length ∧ vs = ⟨[(k : Int)], [], [], [], []⟩ ∧ (0 < k → f0 < prevF f0 xs k) ∧ vsE (prevF f0 xs k) (vlsOf (xs.drop k)) = vsE f0 (vlsOf xs) ∧ hx = voX a xs, fun ids w2 hp hf => ⟨_, xs.length, ⟨hf.x, hf.sep⟩, 0, rfl, Nat.zero_le _, rfl, fun h => absurd h (by omega), by rw [List.drop_zero]; rfl, rfl⟩, ?_⟩
  rintro vs hx' n hcnt ⟨k, rfl, hk, rfl, hfk, he, rfl⟩
  obtain ⟨f, ef⟩ : ∃ f, f = prevF f0 xs k := ⟨_, rfl⟩
  rw [← ef] at hfk he
  refine holds_env (ρ' := ⟨[f0, (k : Int)], [], [], [xs.length, cap], [a]⟩) rfl ?_
  refine br_D (p := (k : Int) < (xs.length : Int)) (by kernel_rfl) (fun hkl => ?_) (fun hkl => pure_done fun _ => by rw [← he, List.drop_eq_nil_of_le (by omega)]; rfl)
  have hkl : k < xs.length := by omega
  obtain ⟨x, hx⟩ : ∃ b, xs[k]? = some b := ⟨_, List.getElem?_eq_getElem hkl⟩
  have hxm := List.mem_of_getElem? hx
  have hd : xs.drop k = x :: xs.drop (k + 1) := by
    rw [List.drop_eq_getElem_cons hkl]
    rw [List.getElem?_eq_getElem hkl] at hx
    rw [Option.some.inj hx]
  have hxI := hI x hxm
  have hpf : prevF f0 xs (k + 1) = x.s + 1 := by unfold prevF; rw [if_neg (by omega), Nat.add_sub_cancel, hx]
  have he2 : vsE f0 (vlsOf xs) = if x.s < f ∨ x.s > 1099511627776 then 26 else if balB x.r x.n = false then 27 else if valE x.v.v ≠ 0 then valE x.v.v else vsE (x.s + 1) (vlsOf (xs.drop (k + 1))) := by
    rw [← he, hd]; rfl
  obtain ⟨s1, q1⟩ := vo_part H hx 0 [.int .i64 x.s] (fun j u hj => by cases j with | zero => exact hj | succ j => cases hj) (by simp)
  obtain ⟨_, q2⟩ := vo_part H hx 1 [.int .i64 x.r, .int .i64 x.n] (fun j u hj => by rcases j with _ | _ | j; exact hj; exact hj; cases hj) (by simp)
  obtain ⟨_, q3⟩ := vo_part H hx 3 x.v.cells (fun j u hj => by rcases j with _ | _ | _ | j; exact hj; exact hj; exact hj; cases hj) (by simp [Pv.cells])
  refine need_k (a.isSome = true ∧ 0 ≤ (k : Int) ∧ (k : Int) < (xs.length : Int)) (by kernel_rfl) ⟨s1, by omega, by omega⟩ ?_
  refine node_ld0 (k := ⟨2, 0, 0, 2, 1⟩) ⟨[x.s], [], [], [], []⟩ (.pointer (some (((a.getD ⟨0, 0, none⟩).add (k * 6)).add 0))) [.int .i64 x.s] (by intros; kernel_rfl) (by intros; kernel_rfl) q1 ⟨by kernel_rfl, oneNil⟩ (by kernel_rfl) oneNil ?_
  refine br_D (p := x.s < f0) (by kernel_rfl) (fun h => pure_done fun _ => ?_) (fun h1 => ?_)
  · have : x.s < f := by
      rcases Nat.eq_zero_or_pos k with q | q
      · rw [ef, q]; exact h
      · have := hfk q; omega
    rw [he2, if_pos (.inl this)]; rfl
  have hwk : IntKind.i64.wrap ((k : Int) + 1) = ((k + 1 : Nat) : Int) := by rw [wrap_i64 (by omega)]; omega
  have fin : ¬ (x.s < f ∨ x.s > 1099511627776) → balB x.r x.n = true → valE x.v.v = 0 → ∀ {m : Mem} {ρ : Env} {es : Vec} {S : Stack}, (∀ ids, es.den ρ ids = ⟨[IntKind.i64.wrap ((k : Int) + 1)], [], [], [], []⟩) → (Tree.again 4 es m).holds ⟨Try.prog, w, fun _ => False, PureAt w (.int .i64 (vsE f0 (vlsOf xs)))⟩ ρ [] (voX a xs) ((4, fun vs' hx'' => ∃ n', n' < xs.length - k ∧ ∃ (k : Nat), n' = xs.length - k ∧ k ≤ xs.length ∧ vs' = ⟨[(k : Int)], [], [], [], []⟩ ∧ (0 < k → f0 < prevF f0 xs k) ∧ vsE (prevF f0 xs k) (vlsOf (xs.drop k)) = vsE f0 (vlsOf xs) ∧ hx'' = voX a xs) :: S) := fun g1 g2 g3 {m ρ es S} hv => by
    rw [if_neg g1, if_neg (by rw [g2]; decide), if_neg (by rw [g3]; decide)] at he2
    exact again_V ⟨[IntKind.i64.wrap ((k : Int) + 1)], [], [], [], []⟩ rfl hv _ (fun w2 ids hf => ⟨hf.x, hf.sep⟩) ⟨xs.length - (k + 1), by omega, k + 1, rfl, by omega, by rw [hwk], fun _ => by rw [hpf]; omega, by rw [hpf]; exact he2.symm, rfl⟩
  refine br_D (p := (k : Int) > 0) (by kernel_rfl) (fun h2 => ?A) (fun h2 => ?B)
  case' A =>
    obtain ⟨y, hy⟩ : ∃ b, xs[k - 1]? = some b := ⟨_, List.getElem?_eq_getElem (by omega)⟩
    have hfy : f = y.s + 1 := by rw [ef]; unfold prevF; rw [if_neg (by omega), hy]
    obtain ⟨_, q4⟩ := vo_part H hy 0 [.int .i64 y.s] (fun j u hj => by cases j with | zero => exact hj | succ j => cases hj) (by simp)
    have hk1 : IntKind.i64.wrap ((k : Int) - 1) = ((k - 1 : Nat) : Int) := by rw [wrap_i64 (by omega)]; omega
    refine need_k (a.isSome = true ∧ 0 ≤ (k : Int) ∧ (k : Int) < (xs.length : Int)) (by kernel_rfl) ⟨s1, by omega, by omega⟩ ?_
    refine node_ld0 (k := ⟨3, 0, 0, 2, 1⟩) ⟨[x.s], [], [], [], []⟩ (.pointer (some (((a.getD ⟨0, 0, none⟩).add (k * 6)).add 0))) [.int .i64 x.s] (by intros; kernel_rfl) (by intros; kernel_rfl) q1 ⟨by kernel_rfl, oneNil⟩ (by kernel_rfl) oneNil ?_
    refine need_k (a.isSome = true ∧ 0 ≤ IntKind.i64.wrap ((k : Int) - 1) ∧ IntKind.i64.wrap ((k : Int) - 1) < (xs.length : Int)) (by kernel_rfl) (by rw [hk1]; exact ⟨s1, by omega, by omega⟩) ?_
    refine node_ld0 (k := ⟨4, 0, 0, 2, 1⟩) ⟨[y.s], [], [], [], []⟩ (.pointer (some (((a.getD ⟨0, 0, none⟩).add ((IntKind.i64.wrap ((k : Int) - 1)).toNat * 6)).add 0))) [.int .i64 y.s] (by intros; kernel_rfl) (by intros; kernel_rfl) (by rw [hk1]; exact q4) ⟨by kernel_rfl, oneNil⟩ (by kernel_rfl) oneNil ?_
    refine br_D (p := x.s ≤ y.s) (by kernel_rfl) (fun h => pure_done fun _ => by rw [he2, if_pos (.inl (by omega))]; rfl) (fun h3 => ?_)
    have hxf : ¬ x.s < f := by omega
  case' B =>
    have hxf : ¬ x.s < f := by
      have : f = f0 := by rw [ef]; unfold prevF; rw [if_pos (by omega)]
      omega
  all_goals
    refine need_k (a.isSome = true ∧ 0 ≤ (k : Int) ∧ (k : Int) < (xs.length : Int)) (by kernel_rfl) ⟨s1, by omega, by omega⟩ ?_
    refine node_ldx ⟨[x.s], [], [], [], []⟩ (.pointer (some (((a.getD ⟨0, 0, none⟩).add (k * 6)).add 0))) [.int .i64 x.s] (by intros; kernel_rfl) (by intros; kernel_rfl) q1 ⟨by kernel_rfl, by kernel_rfl⟩ ?_
    refine br_D (p := x.s > 1099511627776) (by kernel_rfl) (fun h => pure_done fun _ => by rw [he2, if_pos (.inr h)]; rfl) (fun h4 => ?_)
    have g1 : ¬ (x.s < f ∨ x.s > 1099511627776) := by omega
    rw [if_neg g1] at he2
    refine need_k (a.isSome = true ∧ 0 ≤ (k : Int) ∧ (k : Int) < (xs.length : Int)) (by kernel_rfl) ⟨s1, by omega, by omega⟩ ?_
    refine node_ldx ⟨[x.r, x.n], [], [], [], []⟩ (.pointer (some (((a.getD ⟨0, 0, none⟩).add (k * 6)).add 1))) [.int .i64 x.r, .int .i64 x.n] (by intros; kernel_rfl) (by intros; kernel_rfl) q2 ⟨by kernel_rfl, by kernel_rfl⟩ ?_
    refine node_PI ⟨[], [balB x.r x.n], [], [], []⟩ (fun _ => #[.agg #[.int .i64 x.r, .int .i64 x.n]]) (.bool (balB x.r x.n)) (by intros; kernel_rfl) (by intros; kernel_rfl) (by kernel_rfl) (by kernel_rfl) (by kernel_rfl) oneNil (fun ids w2 hp hf => rvalid_any x.r x.n w2) ?_
    refine br_B (!(balB x.r x.n)) (by kernel_rfl) (fun h => pure_done fun _ => by rw [he2, if_pos (by simpa using h)]; rfl) (fun h5 => ?_)
    have g2 : balB x.r x.n = true := by simpa using h5
    rw [if_neg (by rw [g2]; decide)] at he2
    refine need_k (a.isSome = true ∧ 0 ≤ (k : Int) ∧ (k : Int) < (xs.length : Int)) (by kernel_rfl) ⟨s1, by omega, by omega⟩ ?_
    refine node_ldx ⟨[x.v.v.k], [], [], [x.v.v.cs.length, x.v.c1, x.v.v.ns.length, x.v.c2], [x.v.a1, x.v.a2]⟩ (.pointer (some (((a.getD ⟨0, 0, none⟩).add (k * 6)).add 3))) x.v.cells (by intros; kernel_rfl) (by intros; kernel_rfl) q3 ⟨by kernel_rfl, by kernel_rfl⟩ ?_
    refine node_PI ⟨[valE x.v.v], [], [], [], []⟩ (fun _ => #[x.v.val]) (.int .i64 (valE x.v.v)) (by intros; kernel_rfl) (by intros; kernel_rfl) (by kernel_rfl) (by kernel_rfl) (by kernel_rfl) oneNil (fun ids w2 hp hf2 => rchk_any _ _ _ _ _ w2 (voX_at hf2.x hf hxm)) ?_
    refine br_B (valE x.v.v != 0) (by kernel_rfl) (fun h => pure_done fun _ => by rw [he2, if_pos (by simpa using h)]; rfl) (fun h6 => ?_)
    exact fin g1 g2 (by simpa using h6) (by intros; kernel_rfl)
end
theorem vlsOf_get {xs : List (Vo Pv)} {k : Nat} {x : Vo Pv} (h : xs[k]? = some x) : (vlsOf xs)[k]? = some (Vo.map Pv.v x) := by unfold vlsOf; rw [List.getElem?_map, h]; rfl
theorem vlsOf_len (xs : List (Vo Pv)) : (vlsOf xs).length = xs.length := List.length_map _
def VoNew (w : World) (xs : List (Vo Pv)) (e : Ending) (w' : World) : Prop := ∃ (a : Option Addr) (c : Nat) (ys : List (Vo Pv)), e = .returned (.slice a ys.length c) ∧ vlsOf ys = vlsOf xs ∧ ((voAll ys).and (vrow a c ys)).X w' ∧ (∀ k, ((voAll ys).and (vrow a c ys)).F k → w.heap.size ≤ k ∧ k < w'.heap.size) ∧ Below w.heap.size w w'
section
variable {C : Cfg} {ρ : Env} {pre : List Nat} {hx : HX} {L : Stack} {m m' : Mem} {args : List SV} {r : SV} {t : Tree}
theorem node_cpr (hP : C.P = Try.prog) (p : Pv) (hfit : VlFit p.v) (hat : ∀ ids w, pre <+: ids → Facts C m ρ ids hx w → (vlX p.v p.a1 p.a2).X w) (hargs : ∀ ids, (args.map (SV.den ρ ids)).toArray = #[p.val]) (hr : ∀ (q : Pv) ids, r.den (ρ.add ⟨[q.v.k], [], [], [q.v.cs.length, q.c1, q.v.ns.length, q.c2], [q.a1, q.a2]⟩) ids = q.val)
    (hhp : m'.hp = m.hp) (hft : hpFits m.c m.hp.length m.hp = true) (hc : ∀ q : Pv, (ρ.add ⟨[q.v.k], [], [], [q.v.cs.length, q.c1, q.v.ns.length, q.c2], [q.a1, q.a2]⟩).cnt = m'.c)
    (h : ∀ q : Pv, q.v = p.v → (∀ k, (pvR q).F k → C.W.heap.size ≤ k ∧ ¬ hx.F k) → t.holds C (ρ.add ⟨[q.v.k], [], [], [q.v.cs.length, q.c1, q.v.ns.length, q.c2], [q.a1, q.a2]⟩) pre (hx.and (pvR q)) L) : (Tree.call 18 args m r m' t).holds C ρ pre hx L := by
  refine node_out (fun _ => #[p.val]) (fun vs h' => ∃ q : Pv, q.v = p.v ∧ vs = ⟨[q.v.k], [], [], [q.v.cs.length, q.c1, q.v.ns.length, q.c2], [q.a1, q.a2]⟩ ∧ h' = pvR q) hargs (fun ids w hp hf => ?_) hhp hft ?_ ?_
  · rw [hP]
    refine (cpvr_any p.v p.a1 p.c1 p.a2 p.c2 w (hfit.at_ (hat ids w hp hf))).mono ?_
    rintro e w' ⟨b1, d1, b2, d2, rfl, g1, g2, g3, g4, g5⟩
    exact ⟨_, _, ⟨⟨p.v, b1, d1, b2, d2⟩, rfl, rfl, rfl⟩, by rw [hr ⟨p.v, b1, d1, b2, d2⟩]; rfl, ⟨g1, g2⟩, fun k hk => hk.elim (fun q => ⟨g3 k q, rw_ltx g1 q.1 q.2⟩) fun q => ⟨(g4 k q).1, rw_ltx g2 q.1 q.2⟩, g5⟩
  · rintro vs h' ⟨q, _, rfl, rfl⟩; exact ⟨hc q, oneNil⟩
  · rintro vs h' ⟨q, e, rfl, rfl⟩ hfr; exact h q e hfr
end
set_option maxHeartbeats 1000000 in
theorem cpvs7_any (a : Option Addr) (c : Nat) (xs : List (Vo Pv)) (w : World) (H : (voX a xs).X w) (hf : ∀ x ∈ xs, VlFit x.v.v) (hl : xs.length * 80 ≤ 140737488355328) : Calls Try.prog 11 #[.slice a xs.length c] w (VoNew w xs) := by
  obtain ⟨B, eB⟩ : ∃ x, x = voX a xs := ⟨_, rfl⟩
  refine calls_at (tab_ok _) Try.func11 rfl tCpVs7 (ρ := ⟨[], [], [], [xs.length, c], [a]⟩) (ids := []) (hx := B) rfl (Facts.initq rfl oneNil (by rw [eB]; exact H) (by rw [eB]; exact voX_sep H)) ?_
  refine ⟨fun vs hx m => ∃ (k : Nat) (b : Option Addr) (d : Nat) (ys : List (Vo Pv)), m = xs.length - k ∧ k ≤ xs.length ∧ ys.length = k ∧ vlsOf ys = (vlsOf xs).take k ∧ OwnR w B (voAll ys) ∧ OwnR w (B.and (voAll ys)) (vrow b d ys) ∧ vs = ⟨[(k : Int)], [], [], [ys.length, d], [b]⟩ ∧ hx = (B.and (voAll ys)).and (vrow b d ys), fun ids w2 hp hf => ⟨(B.and (voAll [])).and (vrow (some ⟨idAt ids 0, 0, none⟩) 0 []), xs.length, ⟨⟨⟨hf.x, fun x hx => by cases hx⟩, HX.rw_nil _ _ _ _⟩, fun k hk => hk.elim (fun q => q.elim (fun q => hf.sep k q) fun ⟨x, hx, _⟩ => by cases hx) fun q => absurd rfl q.1⟩, 0, some ⟨idAt ids 0, 0, none⟩, 0, [], rfl, Nat.zero_le _, rfl, rfl, (fun k ⟨x, hx, _⟩ => by cases hx), (fun k hk => absurd rfl hk.1), by kernel_rfl, rfl⟩, ?_⟩
  rintro vs hx' m hcnt ⟨k, b, d, ys, rfl, hk, hyl, hv, ownv, ownr, rfl, rfl⟩
  refine holds_env (ρ' := ⟨[(k : Int)], [], [], [xs.length, c, ys.length, d], [a, b]⟩) rfl ?_
  refine br_D (p := (k : Int) < (xs.length : Int)) (by kernel_rfl) (fun hlt => ?_) (fun hlt => ?_)
  · have hlt : k < xs.length := by omega
    obtain ⟨x, hx⟩ : ∃ b, xs[k]? = some b := ⟨_, List.getElem?_eq_getElem hlt⟩
    have hxm := List.mem_of_getElem? hx
    obtain ⟨s1, q1⟩ := vo_part H hx 0 (voC x) (fun j u hj => by rw [Nat.zero_add]; exact hj) (by simp [voC])
    refine need_k (a.isSome = true ∧ 0 ≤ (k : Int) ∧ (k : Int) < (xs.length : Int)) (by kernel_rfl) ⟨s1, by omega, by omega⟩ ?_
    refine node_ldx ⟨[x.s, x.r, x.n, x.v.v.k], [], [], [x.v.v.cs.length, x.v.c1, x.v.v.ns.length, x.v.c2], [x.v.a1, x.v.a2]⟩ (.pointer (some (((a.getD ⟨0, 0, none⟩).add (k * 6)).add 0))) (voC x) (by intros; kernel_rfl) (by intros; kernel_rfl) q1 ⟨by kernel_rfl, by kernel_rfl⟩ ?_
    refine node_cpr rfl x.v (hf x hxm) (fun ids w2 hp hf2 => by have := hf2.x.1.1; rw [eB] at this; exact this.2 _ (List.mem_map.2 ⟨x, hxm, rfl⟩)) (by intros; kernel_rfl) (by intros; kernel_rfl) (by kernel_rfl) (by kernel_rfl) (by intros; kernel_rfl) ?_
    intro q hq fq
    obtain ⟨z, ez⟩ : ∃ z : Vo Pv, z = ⟨x.s, x.r, x.n, q⟩ := ⟨_, rfl⟩
    have hzv : Vo.map Pv.v z = Vo.map Pv.v x := by rw [ez]; unfold Vo.map; dsimp only; rw [hq]
    have hv' : vlsOf (ys ++ [z]) = (vlsOf xs).take (k + 1) := by
      rw [List.take_add_one, vlsOf_get hx, ← hv]
      unfold vlsOf
      rw [List.map_append, ← hzv]; rfl
    refine holds_eq (HX.and_right_comm _ _ _) ?_
    have epc : (B.and (voAll ys)).and (pvR q) = B.and (voAll (ys ++ [z])) := by rw [voAll_snoc, ez, HX.and_assoc]
    refine holds_eq (congrArg (fun y => y.and (vrow b d ys)) epc) ?_
    have fz : ∀ j, (pvR z.v).F j → w.heap.size ≤ j ∧ ¬ ((B.and (voAll ys)).and (vrow b d ys)).F j := fun j hj => by rw [ez] at hj; exact fq j hj
    have ownv' : OwnR w B (voAll (ys ++ [z])) := fun j hj => by
      rw [voAll_snoc] at hj
      rcases hj with hj | hj
      · exact ownv j hj
      · exact ⟨(fz j hj).1, fun y => (fz j hj).2 (.inl (.inl y))⟩
    have hdis : ∀ j, d ≠ 0 → abk b = some j → ¬ (B.and (voAll (ys ++ [z]))).F j := fun j q1 q2 y => by
      rcases y with y | y
      · exact (ownr j ⟨q1, q2⟩).2 (.inl y)
      · rw [voAll_snoc] at y
        rcases y with y | y
        · exact (ownr j ⟨q1, q2⟩).2 (.inr y)
        · exact (fz j y).2 (.inr ⟨q1, q2⟩)
    have hwk : IntKind.i64.wrap ((k : Int) + 1) = ((k + 1 : Nat) : Int) := by rw [wrap_i64 (by omega)]; omega
    refine node_pushs (e := 49) (sz := 6) rfl Try.underlying32 info_vote rfl (by decide) b ys.length d (vocs ys) (voC z) 2 (by intros; kernel_rfl) (by intros; kernel_rfl) rfl (fun ids => by rw [ez]; kernel_rfl) rfl (voC_one z) hdis (fun j q1 q2 => .inl (ownr j ⟨q1, q2⟩).1) (by unfold maxLen; omega) (by omega) (by intros; kernel_rfl) (by kernel_rfl) (by kernel_rfl) (by intros; kernel_rfl) ?_
    intro b' d' hc' hr' hor'
    have erow : HX.rw 6 49 b' (ys.length + 1) d' (vocs ys ++ voC z) = vrow b' d' (ys ++ [z]) := by unfold vrow; rw [vocs_snoc, List.length_append]; rfl
    refine holds_eq (congrArg _ erow) ?_
    refine again_V ⟨[IntKind.i64.wrap ((k : Int) + 1)], [], [], [ys.length + 1, d'], [b']⟩ rfl (by intros; kernel_rfl) _ (fun w2 ids hf => ⟨hf.x, hf.sep⟩) ⟨xs.length - (k + 1), by omega, k + 1, b', d', ys ++ [z], rfl, by omega, by rw [List.length_append, hyl]; rfl, hv', ownv', fun j hj => ⟨?_, hr' j hj.2⟩, by rw [hwk, List.length_append]; rfl, rfl⟩
    rcases hor' with ⟨r1, r2⟩ | ⟨g, r1, r2, _⟩
    · exact (ownr j ⟨r1, by rw [← r2]; exact hj.2⟩).1
    · have := hj.2
      rw [r1] at this; cases this; exact r2
  · have hke : k = xs.length := by omega
    intro ids w2 hp hf2
    refine ⟨b, d, ys, rfl, by rw [hv, hke]; exact List.take_of_length_le (by rw [vlsOf_len]; exact Nat.le_refl _), ⟨hf2.x.1.2, hf2.x.2⟩, fun j hj => ?_, hf2.chg.below⟩
    rcases hj with hj | hj
    · exact ⟨(ownv j hj).1, (hf2.sep j (.inl (.inr hj))).1⟩
    · exact ⟨(ownr j hj).1, (hf2.sep j (.inr hj)).1⟩
def proP (slot low : Int) : Bool := decide ((1 ≤ slot ∧ slot ≤ 1099511627776) ∧ 0 ≤ low ∧ low ≤ 1099511627776)
theorem rplain2_any (r n slot low : Int) (a : Option Addr) (l c : Nat) (w : World) : Calls Try.prog 32 #[proM r n slot low (.slice a l c)] w (PureAt w (.bool (proP slot low))) := by
  obtain ⟨s, es⟩ : ∃ x, x = usesS 2 := ⟨_, rfl⟩
  have hsl : s.data.toList.length ≤ 1000 := by rw [es]; decide
  have bad : ∀ {m2 : Mem} {ρ : Env} {pre : List Nat} {hx : HX} {S : Stack}, ¬ ((1 ≤ slot ∧ slot ≤ 1099511627776) ∧ 0 ≤ low ∧ low ≤ 1099511627776) → (Tree.done (.lf (.bool (.lit false))) m2).holds ⟨Try.prog, w, fun _ => False, PureAt w (.bool (proP slot low))⟩ ρ pre hx S := fun h => pure_done fun _ => by unfold proP; rw [decide_eq_false h]; rfl
  refine calls_at (tab_ok _) Try.func32 rfl tRPlain2 (ρ := ⟨[r, n, slot, low], [], [], [l, c], [a]⟩) (ids := []) (hx := HX.nil) (by kernel_rfl) (Facts.initP rfl oneNil) ?_
  refine node_P ⟨[], [], [.string s], [], []⟩ #[.int .i64 2] (.string s) (by intros; kernel_rfl) (by intros; kernel_rfl) (by kernel_rfl) (by kernel_rfl) (by kernel_rfl) (fun v hv => by simp only [List.mem_singleton] at hv; subst hv; rfl) (fun ids w2 hp hf => by rw [es]; exact ruses_any 2 w2) ?_
  have hnil : (s.toList == (⟨#[]⟩ : ByteArray).toList) = false := by rw [es]; simp [usesS, usL, ByteArray.toList, ByteArray.toList.loop, ByteArray.size, ByteArray.get!]
  refine node_bin (x := .string s) (y := .string ⟨#[]⟩) (V := .bool (s.toList == (⟨#[]⟩ : ByteArray).toList)) ⟨[], [s.toList == (⟨#[]⟩ : ByteArray).toList], [], [], []⟩ (by intros; kernel_rfl) (by intros; kernel_rfl) (fun w => by simp [eqGuard]) (fun w => by simp [binOp, Op.stringOp]) (by intros; kernel_rfl) (by kernel_rfl) (by kernel_rfl) (by kernel_rfl) oneNil ?_
  rw [hnil]
  refine br_F false (by kernel_rfl) rfl ?_
  refine ⟨fun vs hx => vs = Vals.nil ∧ HX.nil = hx, ?_, ?_⟩
  · refine node_P ⟨[], [true], [], [], []⟩ #[.string s, .int .u8 98] (.bool true) (by intros; kernel_rfl) (by intros; kernel_rfl) (by kernel_rfl) (by kernel_rfl) (by kernel_rfl) oneNil (fun ids w2 hp hf => by have := rhas_any s 98 hsl w2; rw [show hasB s 98 = true by rw [es]; rfl] at this; exact this) ?_
    refine br_F false (by kernel_rfl) rfl ?_
    refine node_P ⟨[], [true], [], [], []⟩ #[.string s, .int .u8 115] (.bool true) (by intros; kernel_rfl) (by intros; kernel_rfl) (by kernel_rfl) (by kernel_rfl) (by kernel_rfl) oneNil (fun ids w2 hp hf => by have := rhas_any s 115 hsl w2; rw [show hasB s 115 = true by rw [es]; rfl] at this; exact this) ?_
    refine br_F false (by kernel_rfl) rfl ?_
    refine node_P ⟨[], [true], [], [], []⟩ #[.string s, .int .u8 108] (.bool true) (by intros; kernel_rfl) (by intros; kernel_rfl) (by kernel_rfl) (by kernel_rfl) (by kernel_rfl) oneNil (fun ids w2 hp hf => by have := rhas_any s 108 hsl w2; rw [show hasB s 108 = true by rw [es]; rfl] at this; exact this) ?_
    refine br_F false (by kernel_rfl) rfl ?_
    refine node_P ⟨[], [false], [], [], []⟩ #[.string s, .int .u8 116] (.bool false) (by intros; kernel_rfl) (by intros; kernel_rfl) (by kernel_rfl) (by kernel_rfl) (by kernel_rfl) oneNil (fun ids w2 hp hf => by have := rhas_any s 116 hsl w2; rw [show hasB s 116 = false by rw [es]; rfl] at this; exact this) ?_
    refine br_T true (by kernel_rfl) rfl ?_
    exact again_V Vals.nil rfl (by intros; kernel_rfl) _ (fun w2 ids hf => ⟨hf.x, hf.sep⟩) ⟨rfl, rfl⟩
  rintro vs hx hcnt ⟨rfl, rfl⟩
  rw [Env.add_nil]
  refine ⟨fun vs hx => vs = Vals.nil ∧ HX.nil = hx, ?_, ?_⟩
  · refine node_P ⟨[], [false], [], [], []⟩ #[.string s, .int .u8 118] (.bool false) (by intros; kernel_rfl) (by intros; kernel_rfl) (by kernel_rfl) (by kernel_rfl) (by kernel_rfl) oneNil (fun ids w2 hp hf => by have := rhas_any s 118 hsl w2; rw [show hasB s 118 = false by rw [es]; rfl] at this; exact this) ?_
    refine br_T true (by kernel_rfl) rfl ?_
    refine node_P ⟨[], [true], [], [], []⟩ #[vlV vz none 0 none 0, vlV vz none 0 none 0] (.bool true) (by intros; kernel_rfl) (by intros; kernel_rfl) (by kernel_rfl) (by kernel_rfl) (by kernel_rfl) oneNil (fun ids w2 hp hf => by
      have := samev_any vz none 0 none 0 vz none 0 none 0 w2 (vz_fit.at_ ⟨fun h => absurd h (by decide), fun h => absurd h (by decide)⟩) (vz_fit.at_ ⟨fun h => absurd h (by decide), fun h => absurd h (by decide)⟩)
      rw [vlSame_t rfl] at this
      exact this) ?_
    refine br_F false (by kernel_rfl) rfl ?_
    refine node_P ⟨[], [true], [], [], []⟩ #[.string s, .int .u8 111] (.bool true) (by intros; kernel_rfl) (by intros; kernel_rfl) (by kernel_rfl) (by kernel_rfl) (by kernel_rfl) oneNil (fun ids w2 hp hf => by have := rhas_any s 111 hsl w2; rw [show hasB s 111 = true by rw [es]; rfl] at this; exact this) ?_
    refine br_F false (by kernel_rfl) rfl ?_
    refine node_P ⟨[], [false], [], [], []⟩ #[.string s, .int .u8 99] (.bool false) (by intros; kernel_rfl) (by intros; kernel_rfl) (by kernel_rfl) (by kernel_rfl) (by kernel_rfl) oneNil (fun ids w2 hp hf => by have := rhas_any s 99 hsl w2; rw [show hasB s 99 = false by rw [es]; rfl] at this; exact this) ?_
    refine br_T true (by kernel_rfl) rfl ?_
    exact again_V Vals.nil rfl (by intros; kernel_rfl) _ (fun w2 ids hf => ⟨hf.x, hf.sep⟩) ⟨rfl, rfl⟩
  rintro vs hx hcnt ⟨rfl, rfl⟩
  rw [Env.add_nil]
  refine ⟨fun vs hx => vs = Vals.nil ∧ HX.nil = hx, ?_, ?_⟩
  · refine node_P ⟨[], [false], [], [], []⟩ #[.string s, .int .u8 114] (.bool false) (by intros; kernel_rfl) (by intros; kernel_rfl) (by kernel_rfl) (by kernel_rfl) (by kernel_rfl) oneNil (fun ids w2 hp hf => by have := rhas_any s 114 hsl w2; rw [show hasB s 114 = false by rw [es]; rfl] at this; exact this) ?_
    refine br_T true (by kernel_rfl) rfl ?_
    refine node_P ⟨[], [false], [], [], []⟩ #[.string s, .int .u8 100] (.bool false) (by intros; kernel_rfl) (by intros; kernel_rfl) (by kernel_rfl) (by kernel_rfl) (by kernel_rfl) oneNil (fun ids w2 hp hf => by have := rhas_any s 100 hsl w2; rw [show hasB s 100 = false by rw [es]; rfl] at this; exact this) ?_
    refine br_T true (by kernel_rfl) rfl ?_
    exact again_V Vals.nil rfl (by intros; kernel_rfl) _ (fun w2 ids hf => ⟨hf.x, hf.sep⟩) ⟨rfl, rfl⟩
  rintro vs hx hcnt ⟨rfl, rfl⟩
  rw [Env.add_nil]
  refine br_D (p := slot < 0) (by kernel_rfl) (fun h => bad (by omega)) (fun h1 => ?_)
  refine br_D (p := slot > 1099511627776) (by kernel_rfl) (fun h => bad (by omega)) (fun h2 => ?_)
  refine br_D (p := low < 0) (by kernel_rfl) (fun h => bad (by omega)) (fun h3 => ?_)
  refine br_D (p := low > 1099511627776) (by kernel_rfl) (fun h => bad (by omega)) (fun h4 => ?_)
  refine ⟨fun vs hx => vs = ⟨[], [true], [], [], []⟩ ∧ HX.nil = hx, ?_, ?_⟩
  · exact again_V ⟨[], [true], [], [], []⟩ rfl (by intros; kernel_rfl) _ (fun w2 ids hf => ⟨hf.x, hf.sep⟩) ⟨rfl, rfl⟩
  rintro vs hx hcnt ⟨rfl, rfl⟩
  refine br_F false (by kernel_rfl) rfl ?_
  refine pure_done fun ids => Eq.trans (b := .bool (decide (slot ≥ 1))) (by kernel_rfl) ?_
  unfold proP
  by_cases h : slot ≥ 1
  · rw [decide_eq_true h, decide_eq_true (by omega)]
  · rw [decide_eq_false h, decide_eq_false (by omega)]
theorem rchkP_any {a : Option Addr} {xs : List (Vo Pv)} (cap : Nat) (r n slot low : Int) (w : World) (H : (voX a xs).X w) (hf : ∀ x ∈ xs, VlFit x.v.v) (hI : ∀ x ∈ xs, I64 x.s) : Calls Try.prog 12 #[proM r n slot low (.slice a xs.length cap)] w (PureAt w (.int .i64 (proE r n slot low (vlsOf xs)))) := by
  obtain ⟨s, es⟩ : ∃ x, x = usesS 2 := ⟨_, rfl⟩
  have hsl : s.data.toList.length ≤ 1000 := by rw [es]; decide
  refine calls_at (tab_ok _) Try.func12 rfl tRMChk2 (ρ := ⟨[r, n, slot, low], [], [], [xs.length, cap], [a]⟩) (ids := []) (hx := voX a xs) (by kernel_rfl) (Facts.initq rfl oneNil H (voX_sep H)) ?_
  refine node_P ⟨[], [proP slot low], [], [], []⟩ #[proM r n slot low (.slice a xs.length cap)] (.bool (proP slot low)) (by intros; kernel_rfl) (by intros; kernel_rfl) (by kernel_rfl) (by kernel_rfl) (by kernel_rfl) oneNil (fun ids w2 hp hf => rplain2_any r n slot low a xs.length cap w2) ?_
  by_cases h : (1 ≤ slot ∧ slot ≤ 1099511627776) ∧ 0 ≤ low ∧ low ≤ 1099511627776
  case' neg =>
    refine br_T (!(proP slot low)) (by kernel_rfl) (by unfold proP; rw [decide_eq_false h]; rfl) ?_
    exact pure_done fun ids => Eq.trans (b := .int .i64 26) (by kernel_rfl) (by unfold proE; rw [if_neg h])
  refine br_F (!(proP slot low)) (by kernel_rfl) (by unfold proP; rw [decide_eq_true h]; rfl) ?_
  have hp1 : proE r n slot low (vlsOf xs) = if balB r n = true then chkVs slot (vlsOf xs) else 27 := by unfold proE; rw [if_pos h]
  rw [hp1]
  refine node_P ⟨[], [], [.string s], [], []⟩ #[.int .i64 2] (.string s) (by intros; kernel_rfl) (by intros; kernel_rfl) (by kernel_rfl) (by kernel_rfl) (by kernel_rfl) (fun v hv => by simp only [List.mem_singleton] at hv; subst hv; rfl) (fun ids w2 hp hf => by rw [es]; exact ruses_any 2 w2) ?_
  refine ⟨fun vs hx => vs = Vals.nil ∧ balB r n = true ∧ voX a xs = hx, ?_, ?_⟩
  · refine node_P ⟨[], [true], [], [], []⟩ #[.string s, .int .u8 98] (.bool true) (by intros; kernel_rfl) (by intros; kernel_rfl) (by kernel_rfl) (by kernel_rfl) (by kernel_rfl) oneNil (fun ids w2 hp hf => by have := rhas_any s 98 hsl w2; rw [show hasB s 98 = true by rw [es]; rfl] at this; exact this) ?_
    refine br_T true (by kernel_rfl) rfl ?_
    refine node_P ⟨[], [balB r n], [], [], []⟩ #[.agg #[.int .i64 r, .int .i64 n]] (.bool (balB r n)) (by intros; kernel_rfl) (by intros; kernel_rfl) (by kernel_rfl) (by kernel_rfl) (by kernel_rfl) oneNil (fun ids w2 hp hf => refValid_any r n w2) ?_
    refine br_B (!(balB r n)) (by kernel_rfl) (fun h => pure_done fun _ => ?_) (fun h => ?_)
    · rw [if_neg (by rw [show balB r n = false by simpa using h]; decide)]; rfl
    · exact again_V Vals.nil rfl (by intros; kernel_rfl) _ (fun w2 ids hf => ⟨hf.x, hf.sep⟩) ⟨rfl, by simpa using h, rfl⟩
  rintro vs hx hcnt3 ⟨rfl, hb, rfl⟩
  rw [Env.add_nil, if_pos hb]
  refine node_P ⟨[], [false], [], [], []⟩ #[.string s, .int .u8 118] (.bool false) (by intros; kernel_rfl) (by intros; kernel_rfl) (by kernel_rfl) (by kernel_rfl) (by kernel_rfl) oneNil (fun ids w2 hp hf => by have := rhas_any s 118 hsl w2; rw [show hasB s 118 = false by rw [es]; rfl] at this; exact this) ?_
  refine br_F false (by kernel_rfl) rfl ?_
  refine node_P ⟨[], [true], [], [], []⟩ #[.string s, .int .u8 111] (.bool true) (by intros; kernel_rfl) (by intros; kernel_rfl) (by kernel_rfl) (by kernel_rfl) (by kernel_rfl) oneNil (fun ids w2 hp hf => by have := rhas_any s 111 hsl w2; rw [show hasB s 111 = true by rw [es]; rfl] at this; exact this) ?_
  refine br_T true (by kernel_rfl) rfl ?_
  refine node_PI ⟨[chkVs slot (vlsOf xs)], [], [], [], []⟩ (fun _ => #[.slice a xs.length cap, .int .i64 slot]) (.int .i64 (chkVs slot (vlsOf xs))) (by intros; kernel_rfl) (by intros; kernel_rfl) (by kernel_rfl) (by kernel_rfl) (by kernel_rfl) oneNil (fun ids w2 hp hf2 => rchkvs_any cap slot w2 hf2.x hf hI) ?_
  exact pure_done (by intros; kernel_rfl)
end Go.Proofs.Ytlgpjjgkdpmidaa

namespace Go.Eng
open Go.RowKit Go.Syn
set_option linter.unusedVariables false
section
variable {C : Cfg} {ρ : Env} {pre : List Nat} {hx : HX} {L : Stack} {m m' : Mem} {args : List SV} {r : SV} {t : Tree}
theorem node_PJ {f : Nat} (vs : List Nat → Vals) (AS : List Nat → Array Value) (V : List Nat → Value) (hargs : ∀ ids, (args.map (SV.den ρ ids)).toArray = AS ids) (hr : ∀ ids, r.den (ρ.add (vs ids)) ids = V ids) (hhp : m'.hp = m.hp) (hfit : hpFits m.c m.hp.length m.hp = true) (hc : ∀ ids, (ρ.add (vs ids)).cnt = m'.c) (h1 : ∀ ids v, v ∈ (vs ids).v → v.oneCell' = true) (hcall : ∀ ids w, pre <+: ids → Facts C m ρ ids hx w → Calls C.P f (AS ids) w (PureAt w (V ids)))
    (h : ∀ ids, pre <+: ids → ids.length = m.hp.length → t.holds C (ρ.add (vs ids)) ids hx L) : (Tree.call f args m r m' t).holds C ρ pre hx L := by
  intro ids w hp hf
  rw [hargs]
  refine (hcall ids w hp hf).mono ?_
  rintro e w' ⟨rfl, hb⟩
  refine ⟨vs ids, ids, hx, by rw [hr], List.prefix_refl _, ?_, h ids hp hf.len⟩
  exact Facts.turn (row := none) hf ⟨hb.os, hb.tape, hb.output, hb.size, fun k hk _ => hb.block k hk⟩ (fun b e => by cases e) (hx.loc w w' hf.x fun k hk => hb.block k (hf.sep k hk).1) (fun k hk => .inl hk) hhp hfit (hc ids) (h1 ids)
theorem pure_out {P : Program} {W : World} {M : Nat → Prop} {v : SV} {m : Mem} {ρ : Env} {pre : List Nat} {hx : HX} {L : Stack} {V : Value} (hM : ∀ x, ¬ M x) (hv : ∀ ids, v.den ρ ids = V) : (Tree.done v m).holds ⟨P, W, M, PureAt W V⟩ ρ pre hx L := fun ids w2 hp hf =>
  ⟨by rw [hv], (show Chg (fun _ => False) W w2 from ⟨hf.chg.os, hf.chg.tape, hf.chg.output, hf.chg.size, fun k hk _ => hf.chg.block k hk (hM k)⟩).below⟩
end
end Go.Eng
namespace Go.Proofs.Ytlgpjjgkdpmidaa
open Go.ChangeShapes Go.WideShapes Go.ChangeAt Go.RowKit Go.Syn Go.Eng Go.MapKept
set_option linter.unusedVariables false
set_option linter.unusedSimpArgs false
set_option maxRecDepth 100000
theorem lpromise_any (r n frm low : Int) (a : Option Addr) (l c : Nat) (w : World) : Calls Try.prog 10 #[.agg #[.int .i64 r, .int .i64 n], .int .i64 frm, .int .i64 low, .slice a l c] w (PureAt w (proM r n frm low (.slice a l c))) := by
  refine calls_at (tab_ok _) Try.func10 rfl tPPromise (ρ := ⟨[r, n, frm, low], [], [], [l, c], [a]⟩) (ids := []) rfl (Facts.initP rfl oneNil) ?_
  exact pure_done (by intros; kernel_rfl)
theorem ints_blk {P : Program} {W w : World} {M : Nat → Prop} {R : Ending → World → Prop} {m : Mem} {ρ : Env} {ids : List Nat} {hx : HX} (hf : Facts ⟨P, W, M, R⟩ m ρ ids hx w) (n ty : Nat) (cs : List LV) (xs : List Int) (h : m.hp[n]? = some (ty, cs)) (hc : cellsDen ρ ids cs = xs.map (Value.int .i64)) (hl : xs.length ≤ 1000) (hx : ∀ x ∈ xs, I64 x) : Ints w (some ⟨idAt ids n, 0, none⟩) xs :=
  Ints.of_cells (by omega) hx (blk_cells (ty := ty) (by have := hf.blk n ty cs h; rw [hc] at this; exact this))
theorem mgC_len (r n : Int) (q : Int × Pv) : (mgC r n q).length = 25 := rfl
theorem mg_cells {w : World} {ma : Option Addr} {mc : Nat} {r n : Int} {mp : List (Int × Pv)} (h : (mrow ma mc r n mp).X w) {i : Nat} {q : Int × Pv} (hq : mp[i]? = some q) (o : Nat) (us : List Value) (hu : ∀ j u, us[j]? = some u → (mgC r n q)[o + j]? = some u) (h0 : us ≠ []) : ma.isSome = true ∧ CellsAt w (.pointer (some (((ma.getD ⟨0, 0, none⟩).add (i * 25)).add o))) us (fun _ => False) := by
  obtain ⟨h1, h2⟩ := flat_part (mgC_len r n) (rw_cells h) hq (o := o) us hu h0
  exact ⟨h1, h2 _ id⟩
theorem at1 {α : Type} {l : List α} {k : Nat} {y : α} (h : l[k]? = some y) : ∀ (j : Nat) (u : α), [y][j]? = some u → l[k + j]? = some u := fun j u hj => by
  cases j with
  | zero => simp only [List.getElem?_cons_zero, Option.some.injEq] at hj; rw [← hj]; exact h
  | succ j => simp at hj
theorem mp_get {mp : List (Int × Pv)} {ms : List (Int × Vl)} (h : mmap Pv.v mp = ms) {i : Nat} {s : Int} {v : Vl} (hi : ms[i]? = some (s, v)) : ∃ q, mp[i]? = some q ∧ q.1 = s ∧ q.2.v = v := by
  subst h
  unfold mmap at hi
  rw [List.getElem?_map] at hi
  cases hq : mp[i]? with
  | none => rw [hq] at hi; cases hi
  | some q =>
    rw [hq] at hi
    simp only [Option.map_some, Option.some.injEq, Prod.mk.injEq] at hi
    exact ⟨q, rfl, hi.1, hi.2⟩
theorem ok123 : setOkB [1, 2, 3] = true := by kernel_rfl
theorem i123 : ∀ x ∈ ([1, 2, 3] : List Int), I64 x := by unfold I64; decide
def stop1 : Vl := ⟨2, [], [1]⟩
theorem stop1_fit : VlFit stop1 := ⟨(by unfold stop1 I64; decide), by decide, by decide⟩
def hd0 : Pr Vl := (Pr.new 1 4 [1, 2, 3]).begin 1 1 5
def hd1 : Pr Vl := (hd0.promised 1 []).1
def hd2 : Pr Vl := (hd1.promised 2 [⟨7, 1, 1, stop1⟩]).1
def hd3 : Pr Vl := (hd2.goes Vl.k 4).1
theorem head_any (w : World) : Calls Try.prog 7 #[] w (PureAt w (.bool true)) := by
  refine calls_at (tab_ok _) Try.func7 rfl tPHead (ρ := ⟨[], [], [], [], []⟩) (ids := []) (hx := HX.nil) rfl (Facts.initP rfl oneNil) ?_
  refine node_pnew 1 4 (fun ids => some ⟨idAt ids 0, 0, none⟩) 3 [1, 2, 3] (by intros; kernel_rfl) (fun ids w2 hp hf => ints_blk hf 0 _ _ [1, 2, 3] rfl (by kernel_rfl) (by decide) i123) ⟨ok123, by kernel_rfl⟩ (by intros; kernel_rfl) (by kernel_rfl) (by kernel_rfl) (by intros; kernel_rfl) ?_
  intro nb F hown
  refine node_pnil (pt := 24) (et := 77) (some ⟨nb, 0, none⟩) ⟨[], [false], [], [], []⟩ Try.underlying24 (by intros; kernel_rfl) (by intros; kernel_rfl) (by intros; kernel_rfl) (by kernel_rfl) (by kernel_rfl) (by kernel_rfl) oneNil ?_
  refine br_F false (by kernel_rfl) rfl ?_
  refine node_pcamp 1 1 5 ⟨[1, 0, 0, 0, 1, 1, 5, 0, 0, 0, 0, 0, 0, 0, 0, 0, 0, 0, 0, 0, 0, 0], [], [], [0, 0, 0, 0, 0, 0, 0, 0], [none, none, none, none]⟩ hown ⟨by decide, by decide⟩ (by kernel_rfl) rfl (by decide) (by intros; kernel_rfl) (by intros; kernel_rfl) (by kernel_rfl) (by kernel_rfl) (by kernel_rfl) oneNil ?_
  intro F1 hown1
  refine node_PI ⟨[2, 0, 0, 0, 1, 1, 5, 0, 0, 0, 0, 0, 0, 0, 0, 0, 0, 0, 0, 0, 0], [], [], [0, 0, 0, 0, 0, 0, 0, 0], [none, none, none, none]⟩ (fun _ => #[.agg #[.int .i64 1, .int .i64 1], .int .i64 5, .int .i64 0, .slice none 0 0]) (proM 1 1 5 0 (.slice none 0 0)) (by intros; kernel_rfl) (by intros; kernel_rfl) (by kernel_rfl) (by kernel_rfl) (by kernel_rfl) oneNil (fun ids w2 hp hf => lpromise_any 1 1 5 0 none 0 0 w2) ?_
  refine node_pprom 1 0 [] (fun _ => none) 0 false hown1 (by kernel_rfl) (fun x hx => by cases hx) (by kernel_rfl) rfl (by kernel_rfl) (fun x hx => by cases hx) (by decide) ⟨by decide, by decide⟩ (fun p hp => by cases hp) ⟨by decide, by decide, by decide⟩ ⟨(fun x hx => by cases hx), by unfold I64; decide⟩ (by decide) (by intros; kernel_rfl) (fun ids w2 hp hf => ⟨⟨fun h => absurd h (by decide), fun x hx => by cases hx⟩, fun k hk => hk.elim (fun q => absurd rfl q.1) fun ⟨x, hx, _⟩ => by cases hx⟩) (by intros; kernel_rfl) (by kernel_rfl) (by kernel_rfl) (by kernel_rfl) ?_
  intro F2 hown2
  refine node_PJ (fun ids => ⟨[2, 0, 0, 0, 1, 1, 5, 4, 0, 0, 0, 0, 0, 0, 0, 0, 0, 0, 0, 0, 0], [], [], [0, 0, 0, 0, 1, 1, 0, 0], [none, none, some ⟨idAt ids 4, 0, none⟩, none]⟩) (fun ids => #[.agg #[.int .i64 1, .int .i64 1], .int .i64 5, .int .i64 4, .slice (some ⟨idAt ids 4, 0, none⟩) 1 1]) (fun ids => proM 1 1 5 4 (.slice (some ⟨idAt ids 4, 0, none⟩) 1 1)) (by intros; kernel_rfl) (by intros; kernel_rfl) (by kernel_rfl) (by kernel_rfl) (by intros; kernel_rfl) (fun _ => oneNil) (fun ids w2 hp hf => lpromise_any 1 1 5 4 _ 1 1 w2) ?_
  intro ids0 hp0 hl0
  have e1 : (hd0.promised 1 []).1 = hd1 := rfl
  refine node_pprom 2 4 [⟨7, 1, 1, ⟨stop1, none, 0, some ⟨idAt ids0 3, 0, none⟩, 1⟩⟩] (fun _ => some ⟨idAt ids0 4, 0, none⟩) 1 true hown2 (by kernel_rfl) (fun x hx => by rw [List.mem_singleton.1 hx]; exact stop1_fit) (by kernel_rfl) rfl (by kernel_rfl) (fun x hx => by rw [List.mem_singleton.1 hx]; exact (show (5 : Int) ≤ 7 ∧ (7 : Int) ≤ 5 + 63 by decide)) (by decide) ⟨by decide, by decide⟩ (fun p hp => by cases hp) ⟨by decide, by decide, by decide⟩ ⟨(fun x hx => by rw [List.mem_singleton.1 hx]; unfold I64; decide), by unfold I64; decide⟩ (by exact (show 1 ≤ 64 by decide)) (by intros; kernel_rfl) (fun ids w2 hp hf => ?_) (by intros; kernel_rfl) (by kernel_rfl) (by kernel_rfl) (by kernel_rfl) ?_
  · have i3 : idAt ids 3 = idAt ids0 3 := idAt_pre hp (by rw [hl0]; decide)
    have i4 : idAt ids 4 = idAt ids0 4 := idAt_pre hp (by rw [hl0]; decide)
    have b3 := blk_cells (hf.blk 3 _ _ rfl)
    have b4 := blk_cells (hf.blk 4 _ _ rfl)
    rw [i3] at b3
    rw [i4] at b4
    refine ⟨⟨(by rw [← i3]; exact b4), fun x hx => ?_⟩, fun k hk => .inr ?_⟩
    · rw [List.mem_singleton.1 hx]
      exact ⟨fun h => absurd (show (0 : Nat) < 0 from h) (Nat.lt_irrefl 0), b3⟩
    · rcases hk with hk | ⟨x, hx, hk⟩
      · rw [show k = idAt ids0 4 from hk.2, ← i4]
        exact idAt_mem (by rw [hf.len]; decide)
      · rw [List.mem_singleton.1 hx] at hk
        rcases hk with hk | hk
        · exact absurd rfl hk.1
        · rw [show k = idAt ids0 3 from hk.2, ← i3]
          exact idAt_mem (by rw [hf.len]; decide)
  intro F3 hown3
  refine holds_eq (hx' := HX.nil.and (prP F3 nb hd2)) rfl ?_
  have hown3 : OwnF w (fun _ => False) HX.nil F3 := hown3
  refine node_pgo 4 [(5, vz), (6, vz), (7, stop1)] hd3 hown3 (by kernel_rfl) (by unfold I64; decide) ⟨by decide, by decide⟩ ⟨by decide, by decide⟩ (by decide) (by intros; kernel_rfl) (by intros; kernel_rfl) (by kernel_rfl) (by kernel_rfl) (by intros; kernel_rfl) ?_
  intro mp ma mc F4 hmp hlen hfit hown4 hms
  obtain ⟨q1, g1, h1, _⟩ := mp_get hmp (i := 1) rfl
  obtain ⟨q1', g1', _, h1'⟩ := mp_get hmp (i := 1) rfl
  obtain ⟨q2, g2, _, h2⟩ := mp_get hmp (i := 2) rfl
  have : q1' = q1 := Option.some.inj (g1'.symm.trans g1)
  subst this
  have hne : mp ≠ [] := fun e => by rw [e] at hlen; cases hlen
  have hm := hms hne
  refine br_T true (by kernel_rfl) rfl ?_
  refine br_T true (by kernel_rfl) rfl ?_
  refine br_T true (by kernel_rfl) rfl ?_
  refine br_T true (by kernel_rfl) rfl ?_
  refine br_T true (by kernel_rfl) rfl ?_
  refine br_T true (by kernel_rfl) rfl ?_
  refine br_T true (by kernel_rfl) rfl ?_
  refine br_T true (by kernel_rfl) rfl ?_
  refine need_k (ma.isSome = true ∧ 0 ≤ (1 : Int) ∧ (1 : Int) < (3 : Int)) (by kernel_rfl) ⟨hm, by decide, by decide⟩ ?_
  refine node_ldk ⟨[6], [], [], [], []⟩ (fun _ => .pointer (some (((ma.getD ⟨0, 0, none⟩).add (1 * 25)).add 6))) [.int .i64 6] (by intros; kernel_rfl) (by intros; kernel_rfl) (fun ids w hp hf => (mg_cells hf.x.1.2 g1 6 _ (at1 (by rw [← h1]; rfl)) (by simp)).2) (by kernel_rfl) oneNil ?_
  refine br_T true (by kernel_rfl) rfl ?_
  refine need_k (ma.isSome = true ∧ 0 ≤ (1 : Int) ∧ (1 : Int) < (3 : Int)) (by kernel_rfl) ⟨hm, by decide, by decide⟩ ?_
  refine node_ldk ⟨[0], [], [], [], []⟩ (fun _ => .pointer (some (((ma.getD ⟨0, 0, none⟩).add (1 * 25)).add 9))) [.int .i64 0] (by intros; kernel_rfl) (by intros; kernel_rfl) (fun ids w hp hf => (mg_cells hf.x.1.2 g1 9 _ (at1 (by show some (Value.int .i64 q1'.2.v.k) = _; rw [h1']; rfl)) (by simp)).2) (by kernel_rfl) oneNil ?_
  refine br_T true (by kernel_rfl) rfl ?_
  refine need_k (ma.isSome = true ∧ 0 ≤ (2 : Int) ∧ (2 : Int) < (3 : Int)) (by kernel_rfl) ⟨hm, by decide, by decide⟩ ?_
  refine node_ldk ⟨[2], [], [], [], []⟩ (fun _ => .pointer (some (((ma.getD ⟨0, 0, none⟩).add (2 * 25)).add 9))) [.int .i64 2] (by intros; kernel_rfl) (by intros; kernel_rfl) (fun ids w hp hf => (mg_cells hf.x.1.2 g2 9 _ (at1 (by show some (Value.int .i64 q2.2.v.k) = _; rw [h2]; rfl)) (by simp)).2) (by kernel_rfl) oneNil ?_
  refine br_T true (by kernel_rfl) rfl ?_
  refine node_ptop 7 (by kernel_rfl) ⟨by decide, by decide⟩ (by intros; kernel_rfl) (by intros; kernel_rfl) (by kernel_rfl) (by kernel_rfl) (by kernel_rfl) ?_
  refine br_T true (by kernel_rfl) rfl ?_
  refine node_pstop true (by kernel_rfl) (by intros; kernel_rfl) (by intros; kernel_rfl) (by kernel_rfl) (by kernel_rfl) (by kernel_rfl) ?_
  exact pure_out (fun _ => id) (by intros; kernel_rfl)
end Go.Proofs.Ytlgpjjgkdpmidaa

namespace Go.Proofs.Ytlgpjjgkdpmidaa
open Go.ChangeShapes Go.WideShapes Go.ChangeAt Go.RowKit Go.Syn Go.Eng Go.MapKept
set_option linter.unusedVariables false
set_option linter.unusedSimpArgs false
set_option maxRecDepth 100000
theorem lit3 (w : World) : (Instr.buildSlice 26 3 #[(0, .int .i64 1), (1, .int .i64 2), (2, .int .i64 3)]).run Try.prog w = .ok (.slice (some ⟨w.heap.size, 0, none⟩) 3 3) (w.alloc (.cells (([1, 2, 3] : List Int).map (Value.int .i64)).toArray 3)) := by kernel_rfl
theorem lit0v (w : World) : (Instr.buildSlice 32 0 #[]).run Try.prog w = .ok (.slice (some ⟨w.heap.size, 0, none⟩) 0 0) (w.alloc (.cells ([] : List Value).toArray 49)) := by kernel_rfl
structure Tl where
  a : Option Addr
  c : Nat
  xs : List (Vo Pv)
def tlC (t : Tl) : List Value := [.slice t.a t.xs.length t.c]
def tlX (a : Option Addr) (ts : List Tl) : HX := HX.all (HX.cl a (ts.flatMap tlC) :: ts.map fun t => voX t.a t.xs)
structure TlOk (t : Tl) : Prop where
  s : ∀ x ∈ t.xs, I64 x.s
  f : ∀ x ∈ t.xs, VlFit x.v.v
  l : t.xs.length * 80 ≤ 140737488355328
theorem opn_bal {w : World} {d : Dat} (h : d.In Try.prog w 28) : ∃ x y : Int, d = .parts [.int .i64 x, .int .i64 y] := by
  obtain ⟨ds, rfl, g⟩ := in_struct Try.underlying28 h
  obtain ⟨d0, r0, rfl, h0, g0⟩ := inEach_cons g
  obtain ⟨d1, r1, rfl, h1, g1⟩ := inEach_cons g0
  obtain rfl := inEach_nil g1
  obtain ⟨x, rfl, i⟩ := opn_int h0
  obtain ⟨y, rfl, j⟩ := opn_int h1
  exact ⟨x, y, rfl⟩
theorem opn_vo {w : World} {d : Dat} (h : d.In Try.prog w 49) : ∃ x : Vo Pv, d.cells = voC x ∧ (I64 x.s ∧ VlFit x.v.v) ∧ x.v.hx.X w := by
  obtain ⟨ds, rfl, g⟩ := in_struct Try.underlying49 h
  obtain ⟨d0, r0, rfl, h0, g0⟩ := inEach_cons g
  obtain ⟨d1, r1, rfl, h1, g1⟩ := inEach_cons g0
  obtain ⟨d2, r2, rfl, h2, g2⟩ := inEach_cons g1
  obtain rfl := inEach_nil g2
  obtain ⟨s, rfl, i⟩ := opn_int h0
  obtain ⟨x, y, rfl⟩ := opn_bal h1
  obtain ⟨v, a1, c1, a2, c2, e, H, hk, hc⟩ := opn_vl h2
  refine ⟨⟨s, x, y, ⟨v, a1, c1, a2, c2⟩⟩, ?_, ⟨i, H.fit⟩, H.X⟩
  show [Value.int .i64 s] ++ (Dat.cellsAll [.int .i64 x, .int .i64 y] ++ (d2.cells ++ [])) = _
  rw [e]; rfl
theorem opn_vos {w : World} : ∀ (ds : List Dat), (∀ d ∈ ds, d.In Try.prog w 49) → ∃ vs : List (Vo Pv), vs.length = ds.length ∧ Dat.cellsAll ds = vocs vs ∧ ∀ x ∈ vs, (I64 x.s ∧ VlFit x.v.v) ∧ x.v.hx.X w
  | [], _ => ⟨[], rfl, rfl, fun x hx => by cases hx⟩
  | d :: r, h => by
    obtain ⟨v, e, o, o'⟩ := opn_vo (h d (List.mem_cons_self))
    obtain ⟨vs, l, e2, o2⟩ := opn_vos r (fun d hd => h d (List.mem_cons_of_mem _ hd))
    refine ⟨v :: vs, by simp [l], by rw [Dat.cellsAll, e, e2]; rfl, fun x hx => ?_⟩
    rcases List.mem_cons.1 hx with rfl | hx
    · exact ⟨o, o'⟩
    · exact o2 x hx
theorem vos_X {w : World} {a : Option Addr} {vs : List (Vo Pv)} (h : Cells w a (vocs vs)) (h2 : ∀ x ∈ vs, (I64 x.s ∧ VlFit x.v.v) ∧ x.v.hx.X w) : (voX a vs).X w := ⟨h, fun y hy => by
  obtain ⟨x, hx, rfl⟩ := List.mem_map.1 hy
  exact (h2 x hx).2⟩
theorem bytes_vot : Try.prog.bytesOf 49 = 80 := by kernel_rfl
theorem opn_tl {w : World} {d : Dat} (h : d.In Try.prog w 32) : ∃ t : Tl, d.cells = tlC t ∧ TlOk t ∧ (voX t.a t.xs).X w := by
  obtain ⟨av, cv, dv, rfl, lv, mv, bv, Cv, Iv⟩ := in_slice Try.underlying32 h
  obtain ⟨vs, lvs, evs, ovs⟩ := opn_vos dv Iv
  have hr := reach_is
  rw [bytes_vot] at bv
  rw [evs] at Cv
  refine ⟨⟨av, cv, vs⟩, ?_, ⟨fun x h => (ovs x h).1.1, fun x h => (ovs x h).1.2, by show vs.length * 80 ≤ _; omega⟩, vos_X Cv ovs⟩
  show [Value.slice av dv.length cv] = [Value.slice av vs.length cv]
  rw [lvs]
theorem opn_tls {w : World} : ∀ (ds : List Dat), (∀ d ∈ ds, d.In Try.prog w 32) → ∃ ts : List Tl, ts.length = ds.length ∧ Dat.cellsAll ds = ts.flatMap tlC ∧ ∀ t ∈ ts, TlOk t ∧ (voX t.a t.xs).X w
  | [], _ => ⟨[], rfl, rfl, fun x hx => by cases hx⟩
  | d :: r, h => by
    obtain ⟨v, e, o, o'⟩ := opn_tl (h d (List.mem_cons_self))
    obtain ⟨vs, l, e2, o2⟩ := opn_tls r (fun d hd => h d (List.mem_cons_of_mem _ hd))
    refine ⟨v :: vs, by simp [l], by rw [Dat.cellsAll, e, e2]; rfl, fun x hx => ?_⟩
    rcases List.mem_cons.1 hx with rfl | hx
    · exact ⟨o, o'⟩
    · exact o2 x hx
section
variable {w : World} {a b : Option Addr} {ts : List Tl} {t : Tl} {ys : List (Vo Pv)} {d : Nat}
theorem tl_X (h : Cells w a (ts.flatMap tlC)) (h2 : ∀ t ∈ ts, (voX t.a t.xs).X w) : (tlX a ts).X w := fun x hx => by
  rcases List.mem_cons.1 hx with rfl | hx
  · exact h
  · obtain ⟨t, ht, rfl⟩ := List.mem_map.1 hx
    exact h2 t ht
theorem tl_sep (h : (tlX a ts).X w) : ∀ k, (tlX a ts).F k → k < w.heap.size := fun k ⟨x, hx, hk⟩ => by
  rcases List.mem_cons.1 hx with rfl | hx2
  · exact cl_sep (h _ hx) k hk
  · obtain ⟨t, ht, rfl⟩ := List.mem_map.1 hx2
    exact voX_sep (h _ hx) k hk
theorem tl_vo (h : (tlX a ts).X w) (ht : t ∈ ts) : (voX t.a t.xs).X w := h _ (List.mem_cons_of_mem _ (List.mem_map.2 ⟨t, ht, rfl⟩))
theorem tl_part (h : (tlX a ts).X w) {i : Nat} (hi : ts[i]? = some t) : a.isSome = true ∧ CellsAt w (.pointer (some (((a.getD ⟨0, 0, none⟩).add (i * 1)).add 0))) (tlC t) (fun _ => False) := by
  obtain ⟨h1, h2⟩ := flat_part (f := tlC) (fun _ => rfl) (h _ (.head _)) hi (o := 0) (tlC t) (fun j u hj => by rw [Nat.zero_add]; exact hj) (by simp [tlC])
  exact ⟨h1, h2 _ id⟩
theorem vox_of (h : ((voAll ys).and (vrow b d ys)).X w) : (voX b ys).X w := ⟨rw_cells h.2, fun y hy => by
  obtain ⟨x, hx, rfl⟩ := List.mem_map.1 hy
  have := h.1 _ (List.mem_map.2 ⟨x, hx, rfl⟩)
  exact ⟨rw_cells this.1, rw_cells this.2⟩⟩
theorem rw_cl_G {n d sz e : Nat} {cs : List Value} (hx : (HX.rw sz e b n d cs).X w) {k : Nat} (hk : (HX.cl b cs).F k) : (HX.rw sz e b n d cs).F k := by
  obtain ⟨hne, rfl⟩ := hk
  have hc : d ≠ 0 := fun q => by
    rcases hx with ⟨_, _, h3⟩ | ⟨h3, _⟩
    · exact hne h3
    · exact h3 q
  obtain ⟨g, _, rfl, _⟩ := rw_open hx hc
  exact ⟨hc, rfl⟩
theorem vox_F (h : ((voAll ys).and (vrow b d ys)).X w) {k : Nat} (hk : (voX b ys).F k) : ((voAll ys).and (vrow b d ys)).F k := by
  rcases hk with hk | ⟨y, hy, hk⟩
  · exact .inr (rw_cl_G h.2 hk)
  · obtain ⟨x, hx, rfl⟩ := List.mem_map.1 hy
    have := h.1 _ (List.mem_map.2 ⟨x, hx, rfl⟩)
    exact .inl ⟨_, List.mem_map.2 ⟨x, hx, rfl⟩, hk.elim (fun q => .inl (rw_cl_G this.1 q)) fun q => .inr (rw_cl_G this.2 q)⟩
theorem vrow_part {told : List (Vo Pv)} {ta : Option Addr} {c : Nat} (h : (vrow ta c told).X w) {i : Nat} {x : Vo Pv} (hi : told[i]? = some x) : ta.isSome = true ∧ CellsAt w (.pointer (some (((ta.getD ⟨0, 0, none⟩).add (i * 6)).add 0))) (voC x) (fun _ => False) := by
  obtain ⟨h1, h2⟩ := flat_part voc_len (rw_cells h) hi (o := 0) (voC x) (fun j u hj => by rw [Nat.zero_add]; exact hj) (by simp [voC])
  exact ⟨h1, h2 _ id⟩
theorem vrow_some {told : List (Vo Pv)} {ta : Option Addr} {c : Nat} (h : (vrow ta c told).X w) (hne : told ≠ []) : ta.isSome = true := row_isS h fun z => by
  cases told with
  | nil => exact hne rfl
  | cons y r => simp [vocs, voC] at z
end
theorem vlsOf_mem {xs : List (Vo Pv)} {y : Vo Vl} (h : y ∈ vlsOf xs) : ∃ x ∈ xs, y = Vo.map Pv.v x := by
  obtain ⟨x, hx, e⟩ := List.mem_map.1 h
  exact ⟨x, hx, e.symm⟩
theorem vls_fit {ys xs : List (Vo Pv)} (h : vlsOf ys = vlsOf xs) (H : ∀ x ∈ xs, I64 x.s ∧ VlFit x.v.v) : ∀ x ∈ ys, I64 x.s ∧ VlFit x.v.v := fun x hx => by
  have : Vo.map Pv.v x ∈ vlsOf xs := by rw [← h]; exact List.mem_map.2 ⟨x, hx, rfl⟩
  obtain ⟨z, hz, e⟩ := vlsOf_mem this
  have e1 : x.s = z.s := congrArg (Vo.s (α := Vl)) e
  have e2 : x.v.v = z.v.v := congrArg (Vo.v (α := Vl)) e
  rw [e1, e2]; exact H z hz
section
variable {C : Cfg} {ρ : Env} {pre : List Nat} {hx : HX} {L : Stack} {m m' : Mem} {args : List SV} {r : SV} {t : Tree}
theorem node_cpvs (hP : C.P = Try.prog) (a : Option Addr) (c : Nat) (xs : List (Vo Pv)) (hat : ∀ ids w, pre <+: ids → Facts C m ρ ids hx w → (voX a xs).X w) (hf : ∀ x ∈ xs, VlFit x.v.v) (hl : xs.length * 80 ≤ 140737488355328) (hargs : ∀ ids, (args.map (SV.den ρ ids)).toArray = #[.slice a xs.length c]) (hr : ∀ b d l ids, r.den (ρ.add ⟨[], [], [], [l, d], [b]⟩) ids = .slice b l d)
    (hhp : m'.hp = m.hp) (hft : hpFits m.c m.hp.length m.hp = true) (hc : ∀ b d l, (ρ.add ⟨[], [], [], [l, d], [b]⟩).cnt = m'.c)
    (h : ∀ b d ys, vlsOf ys = vlsOf xs → (∀ k, ((voAll ys).and (vrow b d ys)).F k → C.W.heap.size ≤ k ∧ ¬ hx.F k) → t.holds C (ρ.add ⟨[], [], [], [ys.length, d], [b]⟩) pre (hx.and ((voAll ys).and (vrow b d ys))) L) : (Tree.call 11 args m r m' t).holds C ρ pre hx L := by
  refine node_out (fun _ => #[.slice a xs.length c]) (fun vs h' => ∃ (b : Option Addr) (d : Nat) (ys : List (Vo Pv)), vlsOf ys = vlsOf xs ∧ vs = ⟨[], [], [], [ys.length, d], [b]⟩ ∧ h' = (voAll ys).and (vrow b d ys)) hargs (fun ids w hp hf2 => ?_) hhp hft ?_ ?_
  · rw [hP]
    refine (cpvs7_any a c xs w (hat ids w hp hf2) hf hl).mono ?_
    rintro e w' ⟨b, d, ys, rfl, g1, g2, g3, g4⟩
    exact ⟨_, _, ⟨b, d, ys, g1, rfl, rfl⟩, by rw [hr], g2, g3, g4⟩
  · rintro vs h' ⟨b, d, ys, _, rfl, rfl⟩; exact ⟨hc _ _ _, oneNil⟩
  · rintro vs h' ⟨b, d, ys, e, rfl, rfl⟩ hfr; exact h b d ys e hfr
end
theorem flatMap_len {α β : Type} {f : α → List β} (n : Nat) : ∀ (l : List α), (∀ x, (f x).length = n) → (l.flatMap f).length = l.length * n
  | [], _ => by simp
  | x :: r, h => by rw [List.flatMap_cons, List.length_append, h, flatMap_len n r h, List.length_cons, Nat.succ_mul, Nat.add_comm]
def OwnRo (W : World) (B : HX) (a : Option Addr) (c : Nat) : Prop := ∀ k, c ≠ 0 → abk a = some k → W.heap.size ≤ k ∧ ¬ B.F k
def BdI (w : World) (B : HX) (nb : Nat) (frm : Int) (ts : List Tl) (vs : Vals) (hx : HX) (n : Nat) : Prop := ∃ (i : Nat) (told : List (Vo Pv)) (ta : Option Addr) (c : Nat) (P : Pr Vl) (F : Nat → Prop), n = 2 - i ∧ i ≤ 2 ∧ vs = ⟨[(i : Int)], [], [], [told.length, c], [ta]⟩ ∧ PSt frm (vlsOf told) i P ∧ told.length ≤ 64 * i ∧ (∀ x ∈ told, ∃ t ∈ ts, x ∈ t.xs) ∧ OwnRo w B ta c ∧ OwnF w (fun _ => False) (B.and (vrow ta c told)) F ∧ hx = (B.and (vrow ta c told)).and (prP F nb P)
set_option maxHeartbeats 1000000 in
theorem t2_any {S : Stack} {w : World} {B : HX} {nb : Nat} {frm : Int} {ts : List Tl} {cp : Nat} {a la ta0 ta b : Option Addr} {i c d : Nat} {told ys : List (Vo Pv)} {t : Tl} {P : Pr Vl} {F : Nat → Prop} (hfrm : 1 ≤ frm ∧ frm ≤ 1000) (H0 : (tlX a ts).X w) (hB : ∀ {w}, B.X w → (tlX a ts).X w) (ht : ts[i]? = some t) (hok : TlOk t) (hi : i ≤ 1) (hi2 : i < ts.length) (hS : PSt frm (vlsOf told) i P) (htl : told.length ≤ 64 * i) (htm : ∀ x ∈ told, ∃ t ∈ ts, x ∈ t.xs) (hrow : OwnRo w B ta c) (hown : OwnF w (fun _ => False) (B.and (vrow ta c told)) F) (hys : vlsOf ys = vlsOf t.xs) (fr : ∀ k, ((voAll ys).and (vrow b d ys)).F k → w.heap.size ≤ k ∧ ¬ ((B.and (vrow ta c told)).and (prP F nb P)).F k)
    (hS0 : lkup 12 S = some (fun vs hx => ∃ n', n' < 2 - i ∧ BdI w B nb frm ts vs hx n')) :
    Tree.holds ⟨Try.prog, w, fun _ => False, PureAt w (.bool true)⟩ tPBoundt2 ⟨[frm, 1, 0, 0, 0, 549755813888, 2, frm, 0, 0, 0, 0, 0, 0, 0, 0, 0, 0, 0, 0, 0, 0, 0, (i : Int), 2, 0, 0, 0, 549755813888, 2, frm, 0, 0, 0, 0, 0, 0, 0, 0, 0, 0, 0, 0, 0, 0], [true], [.pointer (some ⟨nb, 0, none⟩)], [ts.length, cp, 3, 3, 0, 0, 0, 0, 0, 0, 0, 0, 0, 0, told.length, c, t.xs.length, t.c, ys.length, d, 0, 0, 0, 0, ys.length, d, 0, 0], [a, la, none, none, none, none, ta0, ta, t.a, b, none, none, b, none]⟩ [] (((B.and (vrow ta c told)).and (prP F nb P)).and ((voAll ys).and (vrow b d ys))) S := by
  have hPB := hS.one hi
  have hyok := vls_fit hys fun x hx => ⟨hok.s x hx, hok.f x hx⟩
  have hylen : ys.length = t.xs.length := by rw [← vlsOf_len, hys, vlsOf_len]
  have hwi : IntKind.i64.wrap ((i : Int) + 1) = (i : Int) + 1 := wrap_i64 (by omega)
  have hw64 : IntKind.i64.wrap (frm + 64) = frm + 64 := wrap_i64 (by omega)
  obtain ⟨s1, q1⟩ := tl_part H0 ht
  have Ht := tl_vo H0 (List.mem_of_getElem? ht)
  obtain ⟨pe, epe⟩ : ∃ x, x = proE 549755813888 2 frm 0 (vlsOf t.xs) := ⟨_, rfl⟩
  refine node_PI ⟨[pe], [], [], [], []⟩ (fun _ => #[proM 549755813888 2 frm 0 (.slice b ys.length d)]) (.int .i64 pe) (by intros; kernel_rfl) (by intros; kernel_rfl) (by kernel_rfl) (by kernel_rfl) (by kernel_rfl) oneNil (fun ids w2 hp hf => by rw [epe, ← hys]; exact rchkP_any d _ _ _ _ w2 (vox_of hf.x.2) (fun x hx => (hyok x hx).2) (fun x hx => (hyok x hx).1)) ?_
  refine br_B (pe != 0) (by kernel_rfl) (fun h => pure_out (fun _ => id) (by intros; kernel_rfl)) (fun h => ?_)
  have hpe : pe = 0 := by simpa using h
  rw [epe] at hpe
  obtain ⟨p1, p2⟩ := proE_ok hpe
  rw [vlsOf_len] at p1
  refine need_k (a.isSome = true ∧ 0 ≤ (i : Int) ∧ (i : Int) < (ts.length : Int)) (by kernel_rfl) ⟨s1, by omega, by omega⟩ ?_
  refine node_ld0 (k := ⟨46, 1, 1, 28, 14⟩) ⟨[], [], [], [t.xs.length, t.c], [t.a]⟩ (.pointer (some (((a.getD ⟨0, 0, none⟩).add (i * 1)).add 0))) (tlC t) (by intros; kernel_rfl) (by intros; kernel_rfl) q1 ⟨by kernel_rfl, (fun v hv => by have hv : v ∈ [Value.pointer (some ⟨nb, 0, none⟩)] := hv; simp only [List.mem_singleton] at hv; subst hv; rfl)⟩ (by kernel_rfl) oneNil ?_
  obtain ⟨G, eG⟩ : ∃ x, x = ((B.and (vrow ta c told)).and (prP F nb P)).and ((voAll ys).and (vrow b d ys)) := ⟨_, rfl⟩
  refine holds_eq eG.symm ?_
  refine ⟨fun vs hx n => ∃ k : Nat, n = t.xs.length - k ∧ k ≤ t.xs.length ∧ vs = ⟨[(k : Int)], [], [], [], []⟩ ∧ (∀ x ∈ t.xs.take k, x.s < frm + 64) ∧ G = hx, fun ids w2 hp hf => ⟨_, t.xs.length, ⟨hf.x, hf.sep⟩, 0, rfl, Nat.zero_le _, by kernel_rfl, (fun x hx => by cases hx), rfl⟩, ?_⟩
  rintro vs hx' n hcnt ⟨k, rfl, hk, rfl, hlow, rfl⟩
  refine holds_env (ρ' := ⟨[frm, 1, 0, 0, 0, 549755813888, 2, frm, 0, 0, 0, 0, 0, 0, 0, 0, 0, 0, 0, 0, 0, 0, 0, (i : Int), 2, 0, 0, 0, 549755813888, 2, frm, 0, 0, 0, 0, 0, 0, 0, 0, 0, 0, 0, 0, 0, 0, pe, (k : Int)], [true], [.pointer (some ⟨nb, 0, none⟩)], [ts.length, cp, 3, 3, 0, 0, 0, 0, 0, 0, 0, 0, 0, 0, told.length, c, t.xs.length, t.c, ys.length, d, 0, 0, 0, 0, ys.length, d, 0, 0, t.xs.length, t.c], [a, la, none, none, none, none, ta0, ta, t.a, b, none, none, b, none, t.a]⟩) rfl ?_
  refine br_D (p := (k : Int) < (t.xs.length : Int)) (by kernel_rfl) (fun hlt => ?_) (fun hlt => ?_)
  · obtain ⟨x, hx⟩ : ∃ b, t.xs[k]? = some b := ⟨_, List.getElem?_eq_getElem (by omega)⟩
    obtain ⟨s2, q2⟩ := vo_part Ht hx 0 (voC x) (fun j u hj => by rw [Nat.zero_add]; exact hj) (by simp [voC])
    have hwk : IntKind.i64.wrap ((k : Int) + 1) = ((k + 1 : Nat) : Int) := by rw [wrap_i64 (by omega)]; omega
    refine need_k (t.a.isSome = true ∧ 0 ≤ (k : Int) ∧ (k : Int) < (t.xs.length : Int)) (by kernel_rfl) ⟨s2, by omega, by omega⟩ ?_
    refine node_ld0 (k := ⟨47, 1, 1, 30, 15⟩) ⟨[x.s, x.r, x.n, x.v.v.k], [], [], [x.v.v.cs.length, x.v.c1, x.v.v.ns.length, x.v.c2], [x.v.a1, x.v.a2]⟩ (.pointer (some (((t.a.getD ⟨0, 0, none⟩).add (k * 6)).add 0))) (voC x) (by intros; kernel_rfl) (by intros; kernel_rfl) q2 ⟨by kernel_rfl, (fun v hv => by have hv : v ∈ [Value.pointer (some ⟨nb, 0, none⟩)] := hv; simp only [List.mem_singleton] at hv; subst hv; rfl)⟩ (by kernel_rfl) oneNil ?_
    refine br_D (p := x.s ≥ IntKind.i64.wrap (frm + 64)) (by kernel_rfl) (fun h => pure_out (fun _ => id) (by intros; kernel_rfl)) (fun h => ?_)
    rw [hw64] at h
    exact again_V ⟨[IntKind.i64.wrap ((k : Int) + 1)], [], [], [], []⟩ rfl (by intros; kernel_rfl) _ (fun w2 ids hf => ⟨hf.x, hf.sep⟩) ⟨t.xs.length - (k + 1), by omega, k + 1, rfl, by omega, by rw [hwk], fun y hy => by
      rw [List.take_add_one, hx] at hy
      rcases List.mem_append.1 hy with hy | hy
      · exact hlow y hy
      · rw [show y = x from by simpa using hy]; omega, rfl⟩
  have hke : k = t.xs.length := by omega
  rw [hke, List.take_length] at hlow
  have hV : VsOk frm (vlsOf t.xs) := fun y hy => by
    have h1 := p2 y hy
    obtain ⟨x, hx, rfl⟩ := vlsOf_mem hy
    have := hlow x hx
    exact ⟨⟨h1.1, by show x.s ≤ _; omega⟩, h1.2⟩
  obtain ⟨st1, st2⟩ := pb_step hPB hi hV
  refine holds_eq eG ?_
  refine holds_eq (HX.and_right_comm _ _ _) ?_
  have hownV : OwnF w (fun _ => False) ((B.and (vrow ta c told)).and ((voAll ys).and (vrow b d ys))) F := fun q hq => ⟨fun z => z.elim (hown q hq).1 fun z => (fr q z).2 (.inr hq), (hown q hq).2⟩
  obtain ⟨e1, e2, e3⟩ := And.intro hPB.r (And.intro hPB.n hPB.f)
  have hmem : Go.Syn.hasB P.mem ((i : Int) + 1) = true := by
    rw [hPB.mem]
    have : i = 0 ∨ i = 1 := by omega
    rcases this with q | q <;> rw [q] <;> rfl
  refine node_pprom ((i : Int) + 1) 0 ys (fun _ => b) d ((i : Int) == 1) hownV (by rw [hys]; exact st2) (fun x hx => (hyok x hx).2) (by rw [e1, e2, e3, hys]; exact hpe) hPB.ph hmem (fun x hx => by
      have : Vo.map Pv.v x ∈ vlsOf t.xs := by rw [← hys]; exact List.mem_map.2 ⟨x, hx, rfl⟩
      rw [e3]; exact (hV _ this).1) (by rw [e3]; omega) (by rw [e3]; omega) (by rw [e3]; exact hPB.keys) ⟨by rw [hPB.said]; split <;> (try split) <;> decide, by rw [hPB.fresh]; decide, by rw [hPB.mem]; decide⟩ ⟨(fun x hx => by
        rw [hPB.said] at hx
        unfold I64
        split at hx
        · cases hx
        · split at hx
          · rw [List.mem_singleton.1 hx]; decide
          · simp only [List.mem_cons, List.not_mem_nil, or_false] at hx
            rcases hx with rfl | rfl <;> decide), by unfold I64; omega⟩ (by omega) (fun ids => by rw [e1, e2, e3, ← hwi]; kernel_rfl) (fun ids w2 hp hf => ⟨vox_of hf.x.1.2, fun q hq => .inl (.inr (vox_F hf.x.1.2 hq))⟩) (by intros; kernel_rfl) (by kernel_rfl) (by kernel_rfl) (by kernel_rfl) ?_
  rw [hys]
  obtain ⟨P', eP'⟩ : ∃ x, x = (P.promised ((i : Int) + 1) (vlsOf t.xs)).1 := ⟨_, rfl⟩
  rw [← eP'] at st1 ⊢
  intro F3 hown3
  refine br_F false (by kernel_rfl) rfl ?_
  refine br_F (!(((i : Int) == 1) == ((i : Int) == 1))) (by kernel_rfl) (by simp) ?_
  refine need_k (a.isSome = true ∧ 0 ≤ (i : Int) ∧ (i : Int) < (ts.length : Int)) (by kernel_rfl) ⟨s1, by omega, by omega⟩ ?_
  refine node_ld0 (k := ⟨48, 2, 1, 30, 15⟩) ⟨[], [], [], [t.xs.length, t.c], [t.a]⟩ (.pointer (some (((a.getD ⟨0, 0, none⟩).add (i * 1)).add 0))) (tlC t) (by intros; kernel_rfl) (by intros; kernel_rfl) q1 ⟨by kernel_rfl, (fun v hv => by have hv : v ∈ [Value.pointer (some ⟨nb, 0, none⟩)] := hv; simp only [List.mem_singleton] at hv; subst hv; rfl)⟩ (by kernel_rfl) oneNil ?_
  refine node_appends (e := 49) (sz := 6) (rest := B.and (prP F3 nb P')) rfl Try.underlying32 info_vote rfl (by decide) ta told.length c (vocs told) (fun _ => t.a) t.xs.length t.c (vocs t.xs) ?_ (fun ids w2 hp hf => hf.x.1.1.2) (fun ids w2 hp hf => (tl_vo (hB hf.x.1.1.1) (List.mem_of_getElem? ht)).1) (fun u hu => ?_) (fun w2 hx => ⟨⟨hx.1.1.1, hx.2⟩, fun q hq => hq.elim (fun z => .inl (.inl (.inl z))) .inr⟩) (fun q q1 q2 => .inl (.inl (.inr ⟨q1, q2⟩))) (fun q q1 q2 z => z.elim (hrow q q1 q2).2 fun z => (hown3 q z).1 (.inl (.inr ⟨q1, q2⟩))) (fun q q1 q2 => .inl (hrow q q1 q2).1) (by unfold maxLen; omega) (by omega) (by intros; kernel_rfl) (by intros; kernel_rfl) (by intros; kernel_rfl) (by kernel_rfl) (by kernel_rfl) (by intros; kernel_rfl) ?_
  · unfold vocs
    exact flatMap_len 6 _ fun _ => rfl
  · obtain ⟨x, _, hx⟩ := List.mem_flatMap.1 hu
    exact voC_one x u hx
  intro a' c' hsame hd' hor'
  have erow : HX.rw 6 49 a' (told.length + t.xs.length) c' (vocs told ++ vocs t.xs) = vrow a' c' (told ++ t.xs) := by
    unfold vrow
    rw [List.length_append]
    congr 1
    unfold vocs
    rw [List.flatMap_append]
  refine holds_eq (congrArg _ erow) ?_
  refine again_V ⟨[IntKind.i64.wrap ((i : Int) + 1)], [], [], [told.length + t.xs.length, c'], [a']⟩ hS0 (by intros; kernel_rfl) ((B.and (vrow a' c' (told ++ t.xs))).and (prP F3 nb P')) (fun w2 ids hf => ⟨⟨⟨hf.x.1.1, hf.x.2⟩, hf.x.1.2⟩, fun q hq => hf.sep q (hq.elim (fun z => z.elim (fun z => .inl (.inl z)) .inr) fun z => .inl (.inr z))⟩) ⟨2 - (i + 1), by omega, i + 1, told ++ t.xs, a', c', P', F3, rfl, by omega, ?_, ?_, ?_, ?_, ?_, ?_, rfl⟩
  · rw [hwi, List.length_append]; rfl
  · have : vlsOf (told ++ t.xs) = vlsOf told ++ vlsOf t.xs := by unfold vlsOf; rw [List.map_append]
    rw [this]; exact st1
  · rw [List.length_append]; omega
  · intro x hx
    rcases List.mem_append.1 hx with hx | hx
    · exact htm x hx
    · exact ⟨t, List.mem_of_getElem? ht, hx⟩
  · intro q q1 q2
    refine ⟨?_, fun z => hd' q q1 q2 (.inl z)⟩
    rcases hor' q q1 q2 with ⟨r1, r2⟩ | ⟨r1, _⟩
    · exact (hrow q r1 r2).1
    · exact r1
  · intro q hq
    refine ⟨fun z => z.elim (fun z => (hown3 q hq).1 (.inl (.inl z))) fun z => hd' q z.1 z.2 (.inr hq), (hown3 q hq).2⟩
set_option maxHeartbeats 4000000 in
theorem bound_walk (a : Option Addr) (cp : Nat) (ts : List Tl) (frm : Int) (w : World) (H0 : (tlX a ts).X w) (hts : ∀ t ∈ ts, TlOk t) (hlen : ts.length ≤ 9223372036854775807) (hfI : I64 frm) :
    Calls Try.prog 3 #[.slice a ts.length cp, .int .i64 frm] w (PureAt w (.bool true)) := by
  obtain ⟨B, eB⟩ : ∃ x, x = tlX a ts := ⟨_, rfl⟩
  have BX : ∀ {w}, B.X w → (tlX a ts).X w := fun h => by rw [eB] at h; exact h
  refine calls_at (tab_ok _) Try.func3 rfl tPBound (ρ := ⟨[frm], [], [], [ts.length, cp], [a]⟩) (ids := []) (hx := B) rfl (Facts.initq rfl oneNil (by rw [eB]; exact H0) (by rw [eB]; exact tl_sep H0)) ?_
  refine node_P ⟨[], [true], [], [], []⟩ #[] (.bool true) (by intros; kernel_rfl) (by intros; kernel_rfl) (by kernel_rfl) (by kernel_rfl) (by kernel_rfl) oneNil (fun ids w2 hp hf => head_any w2) ?_
  refine br_F false (by kernel_rfl) rfl ?_
  refine br_D (p := frm < 1) (by kernel_rfl) (fun h => pure_out (fun _ => id) (by intros; kernel_rfl)) (fun h1 => ?_)
  refine br_D (p := frm > 1000) (by kernel_rfl) (fun h => pure_out (fun _ => id) (by intros; kernel_rfl)) (fun h2 => ?_)
  refine br_D (p := (ts.length : Int) < 2) (by kernel_rfl) (fun h => pure_out (fun _ => id) (by intros; kernel_rfl)) (fun h3 => ?_)
  have hfrm : 1 ≤ frm ∧ frm ≤ 1000 := by omega
  refine node_lit (t := 26) (e := 3) (len := 3) (sz := 1) (([1, 2, 3] : List Int).map (Value.int .i64)) #[(0, .int .i64 1), (1, .int .i64 2), (2, .int .i64 3)] (by intros; kernel_rfl) (fun w => lit3 w) rfl (by unfold maxLen; decide) (by intros; kernel_rfl) (by kernel_rfl) (by kernel_rfl) (by intros; kernel_rfl) ?_
  intro la hla
  refine node_pnew 2 4 (fun ids => la) 3 [1, 2, 3] (by intros; kernel_rfl) (fun ids w2 hp hf => Ints.of_cells (by decide) i123 (rw_cells hf.x.2)) ⟨ok123, by kernel_rfl⟩ (by intros; kernel_rfl) (by kernel_rfl) (by kernel_rfl) (by intros; kernel_rfl) ?_
  intro nb F0 hown0
  refine node_pcamp 549755813888 2 frm ⟨[1, 0, 0, 0, 549755813888, 2, frm, 0, 0, 0, 0, 0, 0, 0, 0, 0, 0, 0, 0, 0, 0, 0], [], [], [0, 0, 0, 0, 0, 0, 0, 0], [none, none, none, none]⟩ hown0 ⟨by omega, by omega⟩ (by kernel_rfl) rfl (by exact (show ¬ compareV 549755813888 2 0 0 ≤ 0 by decide)) (by intros; kernel_rfl) (by intros; kernel_rfl) (by kernel_rfl) (by kernel_rfl) (by kernel_rfl) oneNil ?_
  intro F1 hown1
  refine br_F false (by kernel_rfl) rfl ?_
  refine node_lit (t := 32) (e := 49) (len := 0) (sz := 6) [] #[] (by intros; kernel_rfl) (fun w => lit0v w) rfl (by unfold maxLen; decide) (by intros; kernel_rfl) (by kernel_rfl) (by kernel_rfl) (by intros; kernel_rfl) ?_
  intro ta0 _
  obtain ⟨P0, eP0⟩ : ∃ x, x = (Pr.new 2 4 [1, 2, 3] : Pr Vl).begin 549755813888 2 frm := ⟨_, rfl⟩
  refine ⟨BdI w B nb frm ts, fun ids w2 hp hf => ⟨(B.and (vrow ta0 0 [])).and (prP F1 nb P0), 2, ⟨⟨⟨hf.x.1.1.1, HX.rw_nil _ _ _ _⟩, by rw [eP0]; exact hf.x.1.2⟩, fun k hk => hf.sep k (hk.elim (fun z => z.elim (fun z => .inl (.inl (.inl z))) fun z => absurd rfl z.1) fun z => .inl (.inr z))⟩, 0, [], ta0, 0, P0, F1, rfl, by omega, by kernel_rfl, by rw [eP0]; exact pb_new frm, Nat.zero_le _, (fun x hx => by cases hx), (fun k z => absurd rfl z), (fun k hk => ⟨fun z => z.elim (fun z => (hown1 k hk).1 (.inl z)) fun z => absurd rfl z.1, (hown1 k hk).2⟩), rfl⟩, ?_⟩
  rintro vs hx' n hcnt ⟨i, told, ta, c, P, F, rfl, hi, rfl, hS, htl, htm, hrow, hown, rfl⟩
  clear hown0 hown1 eP0
  refine br_D (p := (i : Int) < 2) (by kernel_rfl) (fun hlt => ?_) (fun hlt => ?_)
  · have hi1 : i ≤ 1 := by omega
    refine holds_env (ρ' := ⟨[frm, 1, 0, 0, 0, 549755813888, 2, frm, 0, 0, 0, 0, 0, 0, 0, 0, 0, 0, 0, 0, 0, 0, 0, (i : Int)], [true], [.pointer (some ⟨nb, 0, none⟩)], [ts.length, cp, 3, 3, 0, 0, 0, 0, 0, 0, 0, 0, 0, 0, told.length, c], [a, la, none, none, none, none, ta0, ta]⟩) rfl ?_
    obtain ⟨t, ht⟩ : ∃ t, ts[i]? = some t := ⟨_, List.getElem?_eq_getElem (by omega)⟩
    have htin := List.mem_of_getElem? ht
    have hok := hts t htin
    obtain ⟨s1, q1⟩ := tl_part H0 ht
    refine need_k (a.isSome = true ∧ 0 ≤ (i : Int) ∧ (i : Int) < (ts.length : Int)) (by kernel_rfl) ⟨s1, by omega, by omega⟩ ?_
    refine par_i ?_ ?_
    all_goals
      refine node_ld0 (k := ⟨24, 1, 1, 16, 8⟩) ⟨[], [], [], [t.xs.length, t.c], [t.a]⟩ (.pointer (some (((a.getD ⟨0, 0, none⟩).add (i * 1)).add 0))) (tlC t) (by intros; kernel_rfl) (by intros; kernel_rfl) q1 ⟨by kernel_rfl, (fun v hv => by have hv : v ∈ [Value.pointer (some ⟨nb, 0, none⟩)] := hv; simp only [List.mem_singleton] at hv; subst hv; rfl)⟩ (by kernel_rfl) oneNil ?_
    refine par_i ?_ ?_
    all_goals
      refine node_cpvs rfl t.a t.c t.xs (fun ids w2 hp hf => tl_vo (BX hf.x.1.1) htin) hok.f hok.l (by intros; kernel_rfl) (by intros; kernel_rfl) (by kernel_rfl) (by kernel_rfl) (by intros; kernel_rfl) ?_
      intro b d ys hys fr
    refine par_i ?_ ?_
    all_goals
      refine node_PI ⟨[2, 0, 0, 0, 549755813888, 2, frm, 0, 0, 0, 0, 0, 0, 0, 0, 0, 0, 0, 0, 0, 0], [], [], [0, 0, 0, 0, ys.length, d, 0, 0], [none, none, b, none]⟩ (fun _ => #[.agg #[.int .i64 549755813888, .int .i64 2], .int .i64 frm, .int .i64 0, .slice b ys.length d]) (proM 549755813888 2 frm 0 (.slice b ys.length d)) (by intros; kernel_rfl) (by intros; kernel_rfl) (by kernel_rfl) (by kernel_rfl) (by kernel_rfl) oneNil (fun ids w2 hp hf => lpromise_any _ _ _ _ _ _ _ w2) ?_
      exact t2_any hfrm H0 BX ht hok hi1 (by omega) hS htl htm hrow hown hys fr rfl
  have hi2 : i = 2 := by omega
  subst hi2
  refine holds_env (ρ' := ⟨[frm, 1, 0, 0, 0, 549755813888, 2, frm, 0, 0, 0, 0, 0, 0, 0, 0, 0, 0, 0, 0, 0, 0, 0, (2 : Int)], [true], [.pointer (some ⟨nb, 0, none⟩)], [ts.length, cp, 3, 3, 0, 0, 0, 0, 0, 0, 0, 0, 0, 0, told.length, c], [a, la, none, none, none, none, ta0, ta]⟩) rfl ?_
  obtain ⟨P', ms, hgo, hr', hn', hG, g1, g2, g3⟩ := pb_go hS hfrm
  refine node_pgo 0 ms P' hown hgo (by unfold I64; omega) (by rw [g1]; omega) g2 g3 (by intros; kernel_rfl) (by intros; kernel_rfl) (by kernel_rfl) (by kernel_rfl) (by intros; kernel_rfl) ?_
  intro mp ma mc F2 hmp hml hfit hown2 hms
  rw [hr', hn']
  obtain ⟨hxm, ehxm⟩ : ∃ x, x = ((((B.and (vrow ta c told)).and (mall mp)).and (mrow ma mc 549755813888 2 mp)).and (prP F2 nb P')) := ⟨_, rfl⟩
  refine holds_eq ehxm.symm ?_
  have hX1 : ∀ {w}, hxm.X w → ((((B.and (vrow ta c told)).and (mall mp)).and (mrow ma mc 549755813888 2 mp)).and (prP F2 nb P')).X w := fun h => by rw [← ehxm]; exact h
  have hle := hG.le
  have tval : ∀ {w} {x : Vo Pv}, hxm.X w → x ∈ told → VlAt w x.v.v x.v.a1 x.v.a2 := fun h hx => by
    obtain ⟨t, h1, h2⟩ := htm _ hx
    exact voX_at (tl_vo (BX (hX1 h).1.1.1.1) h1) (hts t h1).f h2
  refine ⟨fun vs hx n => ∃ j : Nat, n = ms.length - j ∧ j ≤ ms.length ∧ vs = ⟨[(j : Int)], [], [], [], []⟩ ∧ (told ≠ [] → ta.isSome = true) ∧ hxm = hx, fun ids w2 hp hf => ⟨_, ms.length, ⟨hf.x, hf.sep⟩, 0, rfl, Nat.zero_le _, by kernel_rfl, (fun hne => vrow_some (hX1 hf.x).1.1.1.2 hne), rfl⟩, ?_⟩
  rintro vs hx' n hcnt2 ⟨j, rfl, hj, rfl, hsome, rfl⟩
  refine br_D (p := (j : Int) < (ms.length : Int)) (by kernel_rfl) (fun hjl => ?_) (fun hjl => ?_)
  · have hjl : j < ms.length := by omega
    refine holds_env (ρ' := ⟨[frm, 1, 0, 0, 0, 549755813888, 2, frm, 0, 0, 0, 0, 0, 0, 0, 0, 0, 0, 0, 0, 0, 0, 0, (2 : Int), (j : Int)], [true], [.pointer (some ⟨nb, 0, none⟩)], [ts.length, cp, 3, 3, 0, 0, 0, 0, 0, 0, 0, 0, 0, 0, told.length, c, ms.length, mc], [a, la, none, none, none, none, ta0, ta, ma]⟩) rfl ?_
    obtain ⟨v, hv, hbest⟩ := hG.at_ j hjl
    obtain ⟨q, gq, hq1, hq2⟩ := mp_get hmp hv
    have hm := hms fun e => by rw [e] at gq; cases gq
    have wj : IntKind.i64.wrap (frm + (j : Int)) = frm + (j : Int) := wrap_i64 (by omega)
    have wj1 : IntKind.i64.wrap ((j : Int) + 1) = ((j + 1 : Nat) : Int) := by rw [wrap_i64 (by omega)]; omega
    rw [← hq1] at hbest
    refine need_k (ma.isSome = true ∧ 0 ≤ (j : Int) ∧ (j : Int) < (ms.length : Int)) (by kernel_rfl) ⟨hm, by omega, by omega⟩ ?_
    refine node_ldk ⟨[4, 0, 0, 0, 549755813888, 2, q.1, 0, 0, q.2.v.k, 0, 0, 0, 0, 0, 0, 0, 0, 0, 0, 0], [], [], [q.2.v.cs.length, q.2.c1, q.2.v.ns.length, q.2.c2, 0, 0, 0, 0], [q.2.a1, q.2.a2, none, none]⟩ (fun _ => .pointer (some (((ma.getD ⟨0, 0, none⟩).add (j * 25)).add 0))) (mgC 549755813888 2 q) (by intros; kernel_rfl) (by intros; kernel_rfl) (fun ids w hp hf => (mg_cells (hX1 hf.x).1.2 gq 0 _ (fun j u hj => by rw [Nat.zero_add]; exact hj) (by simp [mgC])).2) (by kernel_rfl) oneNil ?_
    refine br_F (q.1 != IntKind.i64.wrap (frm + (j : Int))) (by kernel_rfl) (by rw [wj, hq1]; simp) ?_
    refine br_F false (by kernel_rfl) rfl ?_
    refine br_F false (by kernel_rfl) rfl ?_
    refine ⟨fun vs hx n => ∃ (k : Nat) (nn ff : Bool), n = told.length - k ∧ k ≤ told.length ∧ vs = ⟨[(k : Int)], [nn, ff], [], [], []⟩ ∧ (nn = true → ∀ x ∈ told.take k, x.s ≠ q.1) ∧ (nn = false → ∃ x ∈ told, x.s = q.1) ∧ ((∃ x ∈ told.take k, x.s = q.1 ∧ x.v.v = q.2.v ∧ ∀ y ∈ told, y.s = q.1 → belowB x.r x.n y.r y.n = false) → ff = true) ∧ hxm = hx, fun ids w2 hp hf => ⟨_, told.length, ⟨hf.x, hf.sep⟩, 0, true, false, rfl, Nat.zero_le _, by kernel_rfl, (fun _ x hx => by cases hx), (fun h => by cases h), (fun ⟨x, hx, _⟩ => by cases hx), rfl⟩, ?_⟩
    rintro vs hx' n hcnt3 ⟨k, nn, ff, rfl, hk, rfl, hn1, hn2, hff, rfl⟩
    have wk : IntKind.i64.wrap ((k : Int) + 1) = ((k + 1 : Nat) : Int) := by rw [wrap_i64 (by omega)]; omega
    refine br_D (p := (k : Int) < (told.length : Int)) (by kernel_rfl) (fun hkl => ?_) (fun hkl => ?_)
    · have hkl : k < told.length := by omega
      refine holds_env (ρ' := ⟨[frm, 1, 0, 0, 0, 549755813888, 2, frm, 0, 0, 0, 0, 0, 0, 0, 0, 0, 0, 0, 0, 0, 0, 0, (2 : Int), (j : Int), 4, 0, 0, 0, 549755813888, 2, q.1, 0, 0, q.2.v.k, 0, 0, 0, 0, 0, 0, 0, 0, 0, 0, 0, (k : Int)], [true, nn, ff], [.pointer (some ⟨nb, 0, none⟩)], [ts.length, cp, 3, 3, 0, 0, 0, 0, 0, 0, 0, 0, 0, 0, told.length, c, ms.length, mc, q.2.v.cs.length, q.2.c1, q.2.v.ns.length, q.2.c2, 0, 0, 0, 0], [a, la, none, none, none, none, ta0, ta, ma, q.2.a1, q.2.a2, none, none]⟩) rfl ?_
      obtain ⟨x, hx⟩ : ∃ b, told[k]? = some b := ⟨_, List.getElem?_eq_getElem hkl⟩
      have hxm2 := List.mem_of_getElem? hx
      have htk : told.take (k + 1) = told.take k ++ [x] := by rw [List.take_add_one, hx]; rfl
      have sT : ta.isSome = true := hsome fun e => by rw [e] at hkl; cases hkl
      refine need_k (ta.isSome = true ∧ 0 ≤ (k : Int) ∧ (k : Int) < (told.length : Int)) (by kernel_rfl) ⟨sT, by omega, by omega⟩ ?_
      refine node_ldk ⟨[x.s, x.r, x.n, x.v.v.k], [], [], [x.v.v.cs.length, x.v.c1, x.v.v.ns.length, x.v.c2], [x.v.a1, x.v.a2]⟩ (fun _ => .pointer (some (((ta.getD ⟨0, 0, none⟩).add (k * 6)).add 0))) (voC x) (by intros; kernel_rfl) (by intros; kernel_rfl) (fun ids w hp hf => (vrow_part (hX1 hf.x).1.1.1.2 hx).2) (by kernel_rfl) oneNil ?_
      refine br_B (x.s != q.1) (by kernel_rfl) (fun hne => ?_) (fun heq => ?_)
      · have hne : x.s ≠ q.1 := by simpa using hne
        exact again_V ⟨[IntKind.i64.wrap ((k : Int) + 1)], [nn, ff], [], [], []⟩ rfl (by intros; kernel_rfl) _ (fun w2 ids hf => ⟨hf.x, hf.sep⟩) ⟨told.length - (k + 1), by omega, k + 1, nn, ff, rfl, by omega, by rw [wk], (fun h y hy => by
          rw [htk] at hy
          rcases List.mem_append.1 hy with hy | hy
          · exact hn1 h y hy
          · rw [List.mem_singleton.1 hy]; exact hne), hn2, (fun ⟨y, hy, z1, z2⟩ => by
          rw [htk] at hy
          rcases List.mem_append.1 hy with hy | hy
          · exact hff ⟨y, hy, z1, z2⟩
          · rw [List.mem_singleton.1 hy] at z1; exact absurd z1 hne), rfl⟩
      have heq : x.s = q.1 := by simpa using heq
      have fin : ∀ (f2 : Bool), ((x.v.v = q.2.v ∧ ∀ y ∈ told, y.s = q.1 → belowB x.r x.n y.r y.n = false) → f2 = true) → (ff = true → f2 = true) → (nn = nn) → (false = true → ∀ y ∈ told.take (k + 1), y.s ≠ q.1) ∧ (false = false → ∃ x ∈ told, x.s = q.1) ∧ ((∃ x ∈ told.take (k + 1), x.s = q.1 ∧ x.v.v = q.2.v ∧ ∀ y ∈ told, y.s = q.1 → belowB x.r x.n y.r y.n = false) → f2 = true) := fun f2 z1 z2 _ => ⟨(fun h => by cases h), (fun _ => ⟨x, hxm2, heq⟩), fun ⟨y, hy, z3, z4, z5⟩ => by
        rw [htk] at hy
        rcases List.mem_append.1 hy with hy | hy
        · exact z2 (hff ⟨y, hy, z3, z4, z5⟩)
        · rw [List.mem_singleton.1 hy] at z4 z5; exact z1 ⟨z4, z5⟩⟩
      refine ⟨fun vs hx n => ∃ (l : Nat) (tt : Bool), n = told.length - l ∧ l ≤ told.length ∧ vs = ⟨[(l : Int)], [tt], [], [], []⟩ ∧ ((∀ y ∈ told.take l, y.s = q.1 → belowB x.r x.n y.r y.n = false) → tt = true) ∧ hxm = hx, fun ids w2 hp hf => ⟨_, told.length, ⟨hf.x, hf.sep⟩, 0, true, rfl, Nat.zero_le _, by kernel_rfl, (fun _ => rfl), rfl⟩, ?_⟩
      rintro vs hx' n hcnt4 ⟨l, tt, rfl, hl, rfl, htt, rfl⟩
      have wl : IntKind.i64.wrap ((l : Int) + 1) = ((l + 1 : Nat) : Int) := by rw [wrap_i64 (by omega)]; omega
      refine holds_env (ρ' := ⟨[frm, 1, 0, 0, 0, 549755813888, 2, frm, 0, 0, 0, 0, 0, 0, 0, 0, 0, 0, 0, 0, 0, 0, 0, (2 : Int), (j : Int), 4, 0, 0, 0, 549755813888, 2, q.1, 0, 0, q.2.v.k, 0, 0, 0, 0, 0, 0, 0, 0, 0, 0, 0, (k : Int), x.s, x.r, x.n, x.v.v.k, (l : Int)], [true, nn, ff, tt], [.pointer (some ⟨nb, 0, none⟩)], [ts.length, cp, 3, 3, 0, 0, 0, 0, 0, 0, 0, 0, 0, 0, told.length, c, ms.length, mc, q.2.v.cs.length, q.2.c1, q.2.v.ns.length, q.2.c2, 0, 0, 0, 0, x.v.v.cs.length, x.v.c1, x.v.v.ns.length, x.v.c2], [a, la, none, none, none, none, ta0, ta, ma, q.2.a1, q.2.a2, none, none, x.v.a1, x.v.a2]⟩) rfl ?_
      refine br_D (p := (l : Int) < (told.length : Int)) (by kernel_rfl) (fun hll => ?_) (fun hll => ?_)
      · have hll : l < told.length := by omega
        obtain ⟨y, hy⟩ : ∃ b, told[l]? = some b := ⟨_, List.getElem?_eq_getElem hll⟩
        have htl2 : told.take (l + 1) = told.take l ++ [y] := by rw [List.take_add_one, hy]; rfl
        refine need_k (ta.isSome = true ∧ 0 ≤ (l : Int) ∧ (l : Int) < (told.length : Int)) (by kernel_rfl) ⟨sT, by omega, by omega⟩ ?_
        refine node_ldk ⟨[y.s, y.r, y.n, y.v.v.k], [], [], [y.v.v.cs.length, y.v.c1, y.v.v.ns.length, y.v.c2], [y.v.a1, y.v.a2]⟩ (fun _ => .pointer (some (((ta.getD ⟨0, 0, none⟩).add (l * 6)).add 0))) (voC y) (by intros; kernel_rfl) (by intros; kernel_rfl) (fun ids w hp hf => (vrow_part (hX1 hf.x).1.1.1.2 hy).2) (by kernel_rfl) oneNil ?_
        have old : (∀ z ∈ told.take (l + 1), z.s = q.1 → belowB x.r x.n z.r z.n = false) → tt = true := fun h => htt fun z hz => h z (by rw [htl2]; exact List.mem_append_left _ hz)
        refine br_B tt (by kernel_rfl) (fun htt1 => ?_) (fun htt0 => ?_)
        · refine br_B (y.s != q.1) (by kernel_rfl) (fun hne => ?_) (fun heq2 => ?_)
          · exact again_V ⟨[IntKind.i64.wrap ((l : Int) + 1)], [true], [], [], []⟩ rfl (by intros; kernel_rfl) _ (fun w2 ids hf => ⟨hf.x, hf.sep⟩) ⟨told.length - (l + 1), by omega, l + 1, true, rfl, by omega, by rw [wl], (fun _ => rfl), rfl⟩
          · refine node_P ⟨[], [belowB x.r x.n y.r y.n], [], [], []⟩ #[.agg #[.int .i64 x.r, .int .i64 x.n], .agg #[.int .i64 y.r, .int .i64 y.n]] (.bool (belowB x.r x.n y.r y.n)) (by intros; kernel_rfl) (by intros; kernel_rfl) (by kernel_rfl) (by kernel_rfl) (by kernel_rfl) oneNil (fun ids w2 hp hf => refBelow_any _ _ _ _ w2) ?_
            exact again_V ⟨[IntKind.i64.wrap ((l : Int) + 1)], [!(belowB x.r x.n y.r y.n)], [], [], []⟩ rfl (by intros; kernel_rfl) _ (fun w2 ids hf => ⟨hf.x, hf.sep⟩) ⟨told.length - (l + 1), by omega, l + 1, _, rfl, by omega, by rw [wl], (fun h => by rw [h y (by rw [htl2]; exact List.mem_append_right _ (List.mem_singleton.2 rfl)) (by simpa using heq2)]; rfl), rfl⟩
        · exact again_V ⟨[IntKind.i64.wrap ((l : Int) + 1)], [false], [], [], []⟩ rfl (by intros; kernel_rfl) _ (fun w2 ids hf => ⟨hf.x, hf.sep⟩) ⟨told.length - (l + 1), by omega, l + 1, false, rfl, by omega, by rw [wl], (fun h => by rw [old h] at htt0; cases htt0), rfl⟩
      have hle2 : l = told.length := by omega
      rw [hle2, List.take_length] at htt
      refine br_B ff (by kernel_rfl) (fun hf1 => ?_) (fun hf0 => ?_)
      · exact again_V ⟨[IntKind.i64.wrap ((k : Int) + 1)], [false, true], [], [], []⟩ rfl (by intros; kernel_rfl) _ (fun w2 ids hf => ⟨hf.x, hf.sep⟩) ⟨told.length - (k + 1), by omega, k + 1, false, true, rfl, by omega, by rw [wk], (fin true (fun _ => rfl) (fun _ => rfl) rfl).1, (fin true (fun _ => rfl) (fun _ => rfl) rfl).2.1, (fun _ => rfl), rfl⟩
      refine br_B tt (by kernel_rfl) (fun ht1 => ?_) (fun ht0 => ?_)
      · refine node_PI ⟨[], [vlSame x.v.v q.2.v], [], [], []⟩ (fun _ => #[x.v.val, q.2.val]) (.bool (vlSame x.v.v q.2.v)) (by intros; kernel_rfl) (by intros; kernel_rfl) (by kernel_rfl) (by kernel_rfl) (by kernel_rfl) oneNil (fun ids w2 hp hf => samev_any _ _ _ _ _ _ _ _ _ _ w2 (tval hf.x hxm2) ((hfit q (List.mem_of_getElem? gq)).at_ ((hX1 hf.x).1.1.2 _ (List.mem_map.2 ⟨q, List.mem_of_getElem? gq, rfl⟩)))) ?_
        have z := fin (vlSame x.v.v q.2.v) (fun h => vlSame_t h.1) (fun h => by rw [hf0] at h; cases h) rfl
        exact again_V ⟨[IntKind.i64.wrap ((k : Int) + 1)], [false, vlSame x.v.v q.2.v], [], [], []⟩ rfl (by intros; kernel_rfl) _ (fun w2 ids hf => ⟨hf.x, hf.sep⟩) ⟨told.length - (k + 1), by omega, k + 1, false, _, rfl, by omega, by rw [wk], z.1, z.2.1, z.2.2, rfl⟩
      · have z := fin false (fun h => by rw [htt h.2] at ht0; cases ht0) (fun h => by rw [hf0] at h; cases h) rfl
        exact again_V ⟨[IntKind.i64.wrap ((k : Int) + 1)], [false, false], [], [], []⟩ rfl (by intros; kernel_rfl) _ (fun w2 ids hf => ⟨hf.x, hf.sep⟩) ⟨told.length - (k + 1), by omega, k + 1, false, false, rfl, by omega, by rw [wk], z.1, z.2.1, z.2.2, rfl⟩
    have hke : k = told.length := by omega
    rw [hke, List.take_length] at hn1 hff
    refine holds_env (ρ' := ⟨[frm, 1, 0, 0, 0, 549755813888, 2, frm, 0, 0, 0, 0, 0, 0, 0, 0, 0, 0, 0, 0, 0, 0, 0, (2 : Int), (j : Int), 4, 0, 0, 0, 549755813888, 2, q.1, 0, 0, q.2.v.k, 0, 0, 0, 0, 0, 0, 0, 0, 0, 0, 0, (k : Int)], [true, nn, ff], [.pointer (some ⟨nb, 0, none⟩)], [ts.length, cp, 3, 3, 0, 0, 0, 0, 0, 0, 0, 0, 0, 0, told.length, c, ms.length, mc, q.2.v.cs.length, q.2.c1, q.2.v.ns.length, q.2.c2, 0, 0, 0, 0], [a, la, none, none, none, none, ta0, ta, ma, q.2.a1, q.2.a2, none, none]⟩) rfl ?_
    have nxt : ∀ {m : Mem} {ρ : Env} {es : Vec} {S : Stack}, (∀ ids, es.den ρ ids = ⟨[IntKind.i64.wrap ((j : Int) + 1)], [], [], [], []⟩) → lkup 29 S = some (fun vs hx => ∃ n', n' < ms.length - j ∧ ∃ j : Nat, n' = ms.length - j ∧ j ≤ ms.length ∧ vs = ⟨[(j : Int)], [], [], [], []⟩ ∧ (told ≠ [] → ta.isSome = true) ∧ hxm = hx) → (Tree.again 29 es m).holds ⟨Try.prog, w, fun _ => False, PureAt w (.bool true)⟩ ρ [] hxm S := fun hv hS =>
      again_V ⟨[IntKind.i64.wrap ((j : Int) + 1)], [], [], [], []⟩ hS hv _ (fun w2 ids hf => ⟨hf.x, hf.sep⟩) ⟨ms.length - (j + 1), by omega, j + 1, rfl, by omega, by rw [wj1], hsome, rfl⟩
    refine br_B nn (by kernel_rfl) (fun hn => ?_) (fun hn => ?_)
    · have hk0 : q.2.v.k = 0 := by
        rcases hbest with h | ⟨y, hy, h1, _⟩
        · rw [hq2]; exact h.2
        · obtain ⟨x, hx, rfl⟩ := vlsOf_mem hy
          exact absurd h1 (hn1 hn x hx)
      refine br_F (q.2.v.k != 0) (by kernel_rfl) (by rw [hk0]; rfl) ?_
      exact nxt (by intros; kernel_rfl) rfl
    · have hff1 : ff = true := by
        obtain ⟨x, hx, hxs⟩ := hn2 hn
        rcases hbest with h | ⟨y, hy, h1, h2, h3⟩
        · exact absurd hxs (h.1 (Vo.map Pv.v x) (List.mem_map.2 ⟨x, hx, rfl⟩))
        · obtain ⟨z, hz, rfl⟩ := vlsOf_mem hy
          exact hff ⟨z, hz, h1, h2.trans hq2.symm, fun u hu => h3 (Vo.map Pv.v u) (List.mem_map.2 ⟨u, hu, rfl⟩)⟩
      refine br_F (!ff) (by kernel_rfl) (by rw [hff1]; rfl) ?_
      exact nxt (by intros; kernel_rfl) rfl
  refine holds_env (ρ' := ⟨[frm, 1, 0, 0, 0, 549755813888, 2, frm, 0, 0, 0, 0, 0, 0, 0, 0, 0, 0, 0, 0, 0, 0, 0, (2 : Int), (j : Int)], [true], [.pointer (some ⟨nb, 0, none⟩)], [ts.length, cp, 3, 3, 0, 0, 0, 0, 0, 0, 0, 0, 0, 0, told.length, c, ms.length, mc], [a, la, none, none, none, none, ta0, ta, ma]⟩) rfl ?_
  refine ⟨fun vs hx n => ∃ k : Nat, n = told.length - k ∧ k ≤ told.length ∧ vs = ⟨[(k : Int)], [], [], [], []⟩ ∧ hxm = hx, fun ids w2 hp hf => ⟨_, told.length, ⟨hf.x, hf.sep⟩, 0, rfl, Nat.zero_le _, by kernel_rfl, rfl⟩, ?_⟩
  rintro vs hx' n hcnt5 ⟨k, rfl, hk, rfl, rfl⟩
  refine holds_env (ρ' := ⟨[frm, 1, 0, 0, 0, 549755813888, 2, frm, 0, 0, 0, 0, 0, 0, 0, 0, 0, 0, 0, 0, 0, 0, 0, (2 : Int), (j : Int), (k : Int)], [true], [.pointer (some ⟨nb, 0, none⟩)], [ts.length, cp, 3, 3, 0, 0, 0, 0, 0, 0, 0, 0, 0, 0, told.length, c, ms.length, mc], [a, la, none, none, none, none, ta0, ta, ma]⟩) rfl ?_
  refine br_D (p := (k : Int) < (told.length : Int)) (by kernel_rfl) (fun hkl => ?_) (fun hkl => pure_out (fun _ => id) (by intros; kernel_rfl))
  have hkl : k < told.length := by omega
  obtain ⟨x, hx⟩ : ∃ b, told[k]? = some b := ⟨_, List.getElem?_eq_getElem hkl⟩
  have hxm2 := List.mem_of_getElem? hx
  have wk : IntKind.i64.wrap ((k : Int) + 1) = ((k + 1 : Nat) : Int) := by rw [wrap_i64 (by omega)]; omega
  have wf : IntKind.i64.wrap (frm + (ms.length : Int)) = frm + (ms.length : Int) := wrap_i64 (by omega)
  have htop := hG.top (Vo.map Pv.v x) (List.mem_map.2 ⟨x, hxm2, rfl⟩)
  have htop : x.s < frm + (ms.length : Int) := htop
  have sT : ta.isSome = true := hsome fun e => by rw [e] at hkl; cases hkl
  refine need_k (ta.isSome = true ∧ 0 ≤ (k : Int) ∧ (k : Int) < (told.length : Int)) (by kernel_rfl) ⟨sT, by omega, by omega⟩ ?_
  refine node_ldk ⟨[x.s, x.r, x.n, x.v.v.k], [], [], [x.v.v.cs.length, x.v.c1, x.v.v.ns.length, x.v.c2], [x.v.a1, x.v.a2]⟩ (fun _ => .pointer (some (((ta.getD ⟨0, 0, none⟩).add (k * 6)).add 0))) (voC x) (by intros; kernel_rfl) (by intros; kernel_rfl) (fun ids w hp hf => (vrow_part (hX1 hf.x).1.1.1.2 hx).2) (by kernel_rfl) oneNil ?_
  refine br_F (decide (x.s ≥ IntKind.i64.wrap (frm + (ms.length : Int)))) (by kernel_rfl) (by rw [wf]; exact decide_eq_false (by omega)) ?_
  exact again_V ⟨[IntKind.i64.wrap ((k : Int) + 1)], [], [], [], []⟩ rfl (by intros; kernel_rfl) _ (fun w2 ids hf => ⟨hf.x, hf.sep⟩) ⟨told.length - (k + 1), by omega, k + 1, rfl, by omega, by rw [wk], rfl⟩
theorem bound_args (a : Option Addr) (cap : Nat) (ds : List Dat) (frm : Int) (w : World) (h1 : Cells w a (Dat.cellsAll ds)) (h2 : ∀ d ∈ ds, d.In Try.prog w 32) (h3 : ds.length ≤ 9223372036854775807) (h4 : ds.length * Try.prog.bytesOf 32 ≤ reachBytes) (hf : I64 frm) : Calls Try.prog 3 #[.slice a ds.length cap, .int .i64 frm] w (PureAt w (.bool true)) := by
  obtain ⟨ts, e1, e2, ht⟩ := opn_tls ds h2
  rw [e2] at h1
  rw [← e1] at h3 ⊢
  exact bound_walk a cap ts frm w (tl_X h1 fun t h => (ht t h).2) (fun t h => (ht t h).1) h3 hf
end Go.Proofs.Ytlgpjjgkdpmidaa
