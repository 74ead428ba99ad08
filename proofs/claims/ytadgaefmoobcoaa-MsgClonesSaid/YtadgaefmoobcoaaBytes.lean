/- Bytes: clones, copies, comparisons. -/
import Derived.Test.YtadgaefmoobcoaaEng24
import Derived.Test.YtadgaefmoobcoaaTab
namespace Go.Proofs.Ytadgaefmoobcoaa
open Go.ChangeShapes Go.WideShapes Go.ChangeAt Go.RowKit Go.Syn Go.Eng
set_option linter.unusedVariables false
set_option maxRecDepth 100000
set_option linter.unusedSimpArgs false
set_option maxRecDepth 100000 in
theorem tClone : (runF ⟨tt, fns, {}⟩ (Try.f65.body.getD .skip) Try.f65.results.toList (entry Try.f65.ntmps [.lf (.sl 0 (.var 0) (.var 1))] [] ⟨0, 0, 0, 2, 1⟩)) =
  (.br (.anone 0) (.done (.lf .nilsl) ⟨[], ⟨0, 0, 0, 2, 1⟩⟩) (.gen (.call ⟨(.builtin .append), #[(.tmp 5), (.tmp 6)], #[35, 35]⟩) 35 [(5, (.lf (.nsl 0 0 0 0))), (6, (.lf (tSl 0 0 1)))] ⟨[(5, [])], ⟨0, 0, 0, 2, 1⟩⟩ (.some (.lf (tSl 1 2 3))) ⟨[(5, [])], ⟨0, 0, 0, 4, 2⟩⟩ (.done (.lf (tSl 1 2 3)) ⟨[(5, [])], ⟨0, 0, 0, 4, 2⟩⟩))) := by kernel_rfl
set_option maxRecDepth 100000 in
theorem tCopyB : (runF ⟨tt, fns, {loops := [(3, ⟨[(10, .int .i64)], []⟩)]}⟩ (Try.f20.body.getD .skip) Try.f20.results.toList (entry Try.f20.ntmps [.lf (.sl 0 (.var 0) (.var 1))] [] ⟨0, 0, 0, 2, 1⟩)) =
  (.gen (.makeSlice 35 (.tmp 6) (.tmp 6)) 35 [(6, (.lf (.int .i64 (.nat 0)))), (6, (.lf (.int .i64 (.nat 0))))] ⟨[], ⟨0, 0, 0, 2, 1⟩⟩ (.some (.lf (tSl 1 2 3))) ⟨[], ⟨0, 0, 0, 4, 2⟩⟩ (.loop 3 ⟨[(.lit 0)], [], [], [], []⟩ ⟨[], ⟨0, 0, 0, 4, 2⟩⟩ ⟨[], ⟨1, 0, 0, 4, 2⟩⟩ (.br (.cmp .lss (.var 0) (.nat 0)) (.need (.inb 0 (.var 0) (.nat 0)) (.ld .false (.adr 0 (.var 0) 1 0) [(.int .u8 (.var 1))] ⟨[], ⟨1, 0, 0, 4, 2⟩⟩ ⟨[], ⟨2, 0, 0, 4, 2⟩⟩ (.need (.inb 1 (.var 0) (.nat 2)) (.gen (.store 5 (.tmp 19) (.tmp 18)) 0 [(19, (.lf (.adr 1 (.var 0) 1 0))), (18, (.lf (.int .u8 (.var 1))))] ⟨[], ⟨2, 0, 0, 4, 2⟩⟩ .none ⟨[], ⟨2, 0, 0, 4, 2⟩⟩ (.again 3 ⟨[(.op .add .i64 (.var 0) (.lit 1))], [], [], [], []⟩ ⟨[], ⟨2, 0, 0, 4, 2⟩⟩))))) (.done (.lf (tSl 1 2 3)) ⟨[], ⟨1, 0, 0, 4, 2⟩⟩)))) := by kernel_rfl
set_option maxRecDepth 100000 in
theorem tSameB : (runF ⟨tt, fns, {loops := [(4, ⟨[(13, .int .i64)], []⟩)]}⟩ (Try.f18.body.getD .skip) Try.f18.results.toList (entry Try.f18.ntmps [.lf (.sl 0 (.var 0) (.var 1)), .lf (.sl 1 (.var 2) (.var 3))] [] ⟨0, 0, 0, 4, 2⟩)) =
  (.br (.cmp .neq (.nat 0) (.nat 2)) (.done (.lf (.bool (.lit .false))) ⟨[], ⟨0, 0, 0, 4, 2⟩⟩) (.loop 4 ⟨[(.lit 0)], [], [], [], []⟩ ⟨[], ⟨0, 0, 0, 4, 2⟩⟩ ⟨[], ⟨1, 0, 0, 4, 2⟩⟩ (.br (.cmp .lss (.var 0) (.nat 0)) (.need (.inb 0 (.var 0) (.nat 0)) (.need (.inb 1 (.var 0) (.nat 2)) (.par (.ld .false (.adr 0 (.var 0) 1 0) [(.int .u8 (.var 1))] ⟨[], ⟨1, 0, 0, 4, 2⟩⟩ ⟨[], ⟨2, 0, 0, 4, 2⟩⟩ (.ld .false (.adr 1 (.var 0) 1 0) [(.int .u8 (.var 2))] ⟨[], ⟨2, 0, 0, 4, 2⟩⟩ ⟨[], ⟨3, 0, 0, 4, 2⟩⟩ (.br (.cmp .neq (.var 1) (.var 2)) (.done (.lf (.bool (.lit .false))) ⟨[], ⟨3, 0, 0, 4, 2⟩⟩) (.again 4 ⟨[(.op .add .i64 (.var 0) (.lit 1))], [], [], [], []⟩ ⟨[], ⟨3, 0, 0, 4, 2⟩⟩)))) (.ld .false (.adr 1 (.var 0) 1 0) [(.int .u8 (.var 1))] ⟨[], ⟨1, 0, 0, 4, 2⟩⟩ ⟨[], ⟨2, 0, 0, 4, 2⟩⟩ (.ld .false (.adr 0 (.var 0) 1 0) [(.int .u8 (.var 2))] ⟨[], ⟨2, 0, 0, 4, 2⟩⟩ ⟨[], ⟨3, 0, 0, 4, 2⟩⟩ (.br (.cmp .neq (.var 2) (.var 1)) (.done (.lf (.bool (.lit .false))) ⟨[], ⟨3, 0, 0, 4, 2⟩⟩) (.again 4 ⟨[(.op .add .i64 (.var 0) (.lit 1))], [], [], [], []⟩ ⟨[], ⟨3, 0, 0, 4, 2⟩⟩))))))) (.done (.lf (.bool (.lit .true))) ⟨[], ⟨1, 0, 0, 4, 2⟩⟩)))) := by kernel_rfl
/-- A row of bytes. -/
def bcells (bs : List Int) : List Value := bs.map (Value.int .u8)
theorem bcells_len (bs : List Int) : (bcells bs).length = bs.length := List.length_map ..
theorem bcells_one (bs : List Int) : ∀ u ∈ bcells bs, u.oneCell' = true := fun u hu => by
  obtain ⟨b, _, rfl⟩ := List.mem_map.1 hu; rfl
theorem bcells_get {bs : List Int} {i : Nat} {b : Int} (h : bs[i]? = some b) : (bcells bs)[i]? = some (.int .u8 b) := by
  unfold bcells; rw [List.getElem?_map, h]; rfl
theorem bcells_nil {bs : List Int} : bcells bs = [] ↔ bs = [] := List.map_eq_nil_iff
/-- What makes bytes and tells of them. -/
def NewD (w : World) (V : Value → Value) (bs : List Int) (e : Ending) (w' : World) : Prop := ∃ a' c', e = .returned (V (.slice a' bs.length c')) ∧ Cells w' a' (bcells bs) ∧ (bs ≠ [] → w.heap.size ≤ blk a') ∧ bs.length ≤ c' ∧ Below w.heap.size w w'
theorem info_byte : (Try.prog.info? 5).map (fun i => (i.zero, i.size, i.bytes)) = some (some (.int .u8 0), 1, 1) := by kernel_rfl
/-- New memory that holds bytes. -/
def NewBs (w : World) (bs : List Int) (e : Ending) (w' : World) : Prop := ∃ a' c', e = .returned (.slice a' bs.length c') ∧ Cells w' a' (bcells bs) ∧ (bs ≠ [] → w.heap.size ≤ blk a') ∧ Below w.heap.size w w'
theorem NewD.bs {w : World} {bs : List Int} {e : Ending} {w' : World} (h : NewD w id bs e w') : NewBs w bs e w' := by
  obtain ⟨a', c', h1, h2, h3, _, h4⟩ := h
  exact ⟨a', c', h1, h2, h3, h4⟩
theorem b_elt {w : World} {a : Option Addr} {bs : List Int} (h : Cells w a (bcells bs)) {i : Nat} {b : Int} (hi : bs[i]? = some b) :
    a.isSome = true ∧ ∀ (N : Nat → Prop), ¬ N ((a.getD ⟨0, 0, none⟩).block) → CellsAt w (.pointer (some (((a.getD ⟨0, 0, none⟩).add (i * 1)).add 0))) [.int .u8 b] N :=
  cl_elt h [.int .u8 b] (fun j u hj => by
    cases j with
    | zero => simp only [List.getElem?_cons_zero, Option.some.injEq] at hj; subst hj; rw [Nat.mul_one]; exact bcells_get hi
    | succ j => simp at hj) (by simp)
theorem clone_any (a : Option Addr) (cap : Nat) (bs : List Int) (w : World) (H : Cells w a (bcells bs)) (hl : bs.length ≤ 140737488355328) : Calls Try.prog 65 #[.slice a bs.length cap] w (NewBs w bs) := by
  refine calls_at (tab_ok _) Try.func65 rfl tClone (ρ := ⟨[], [], [], [bs.length, cap], [a]⟩) (ids := []) (hx := HX.cl a (bcells bs)) rfl (Facts.initq rfl oneNil H (cl_sep H)) ?_
  refine br_i (fun h => ?_) (fun h => ?_)
  · intro ids w2 hp hf
    have ha : a = none := by
      have : a.isNone = true := h
      simpa using this
    subst ha
    have hb : bs = [] := by
      rcases List.eq_nil_or_concat bs with q | ⟨r, x, q⟩
      · exact q
      · have := (H (by rw [bcells_len, q]; simp)).1
        simp [PlainA] at this
    subst hb
    exact ⟨none, 0, rfl, fun h => by simp [bcells] at h, fun h => absurd rfl h, hf.chg.below⟩
  · refine node_clone (xs := bcells bs) rfl Try.underlying35 info_byte rfl 0 rfl (fun _ => a) cap (fun ids w2 hp hf => hf.x) (bcells_one bs) (by rw [bcells_len]; unfold maxLen; omega) (by rw [bcells_len]; omega) (fun _ => rfl) (fun _ => by rw [bcells_len]; rfl) (fun _ _ _ => rfl) rfl rfl (fun _ _ => rfl) ?_
    rw [bcells_len]
    intro a' c' hd ids w2 hp hf
    refine ⟨a', c', rfl, row_cells hf.x.2, fun hne => ?_, hf.chg.below⟩
    have hc : c' ≠ 0 := by
      rcases hf.x.2 with ⟨_, _, q⟩ | ⟨q, _⟩
      · exact absurd (bcells_nil.1 q) hne
      · exact q
    obtain ⟨g, rfl, h1, h2⟩ := row_at hf.x.2 hc
    exact h1
theorem rep_spl (bs : List Int) (i : Nat) (b : Int) (hi : bs[i]? = some b) : spl (bcells (bs.take i) ++ List.replicate (bs.length - i) (.int .u8 0)) i [.int .u8 b] = bcells (bs.take (i + 1)) ++ List.replicate (bs.length - (i + 1)) (.int .u8 0) := by
  have hlt : i < bs.length := by
    rcases Nat.lt_or_ge i bs.length with q | q
    · exact q
    · rw [List.getElem?_eq_none q] at hi; cases hi
  have hl : (bcells (bs.take i)).length = i := by rw [bcells_len, List.length_take]; omega
  unfold spl
  rw [List.take_append, hl, Nat.sub_self, List.take_zero, List.append_nil, List.take_of_length_le (by omega), List.drop_append, hl, List.drop_of_length_le (by simp; omega)]
  simp only [List.length_singleton, List.nil_append, List.drop_replicate]
  rw [show bs.length - i - (i + 1 - i) = bs.length - (i + 1) by omega]
  congr 1
  rw [List.take_add_one, hi]
  simp [bcells]
def CpI (a : Option Addr) (bs : List Int) (i : Nat) (vs : Vals) (hx : HX) : Prop := ∃ k : Nat, k ≤ bs.length ∧ vs = ⟨[(k : Int)], [], [], [], []⟩ ∧ hx = (HX.cl a (bcells bs)).and (HX.rw 1 5 (some ⟨i, 0, none⟩) bs.length bs.length (bcells (bs.take k) ++ List.replicate (bs.length - k) (.int .u8 0)))
theorem copyb_new (a : Option Addr) (cap : Nat) (bs : List Int) (w : World) (H : Cells w a (bcells bs)) (hl : bs.length ≤ 140737488355328) : Calls Try.prog 20 #[.slice a bs.length cap] w (NewD w id bs) := by
  refine calls_at (tab_ok _) Try.func20 rfl tCopyB (ρ := ⟨[], [], [], [bs.length, cap], [a]⟩) (ids := []) (hx := HX.cl a (bcells bs)) rfl (Facts.initq rfl oneNil H (cl_sep H)) ?_
  refine node_makeS Try.underlying35 info_byte rfl bs.length (fun _ => rfl) (fun _ => rfl) (by omega) (by unfold maxLen; omega) (fun _ _ => rfl) rfl rfl (fun _ => rfl) ?_
  intro i hiW hiF
  refine loop_i (CpI a bs i) (fun vs => bs.length - (vs.i.headD 0).toNat) (fun ids w2 hp hf => ⟨_, ⟨hf.x, hf.sep⟩, 0, by omega, rfl, rfl⟩) ?_
  rintro vs hx' hcnt ⟨k, hk1, rfl, rfl⟩
  have hwk : IntKind.i64.wrap ((k : Int) + 1) = ((k + 1 : Nat) : Int) := by rw [wrap_i64 (by omega)]; omega
  by_cases hk : k < bs.length
  · refine br_t (show decide ((k : Int) < (bs.length : Int)) = true by simpa using hk) ?_
    obtain ⟨b, hb⟩ : ∃ b, bs[k]? = some b := ⟨_, List.getElem?_eq_getElem hk⟩
    obtain ⟨s1, c1⟩ := b_elt H hb
    refine need_i ⟨s1, (show (0 : Int) ≤ k by omega), (show (k : Int) < bs.length by omega)⟩ ?_
    refine ⟨⟨[b], [], [], [], []⟩, fun ids => c1 _ (fun e => e), ⟨rfl, oneNil⟩, ?_⟩
    refine need_i ⟨rfl, (show (0 : Int) ≤ k by omega), (show (k : Int) < bs.length by omega)⟩ ?_
    refine node_stores (sz := 1) (some ⟨i, 0, none⟩) bs.length bs.length _ [.int .u8 b] k 0 (.int .u8 b) (by kernel_rfl) (fun _ => rfl) (fun _ => rfl) rfl (by simp [Value.oneCell']) (by simp; omega) (by simp) (fun q hq hab hF => ?_) (fun q hq hab => ?_) rfl rfl rfl ?_
    · cases hab; exact hiF hF
    · cases hab; exact .inl hiW
    · rw [Nat.mul_one, Nat.add_zero, rep_spl bs k b hb]
      intro ids w2 hp hf
      refine ⟨_, ⟨hf.x, hf.sep⟩, _, rfl, ⟨k + 1, by omega, ?_, rfl⟩, ?_⟩
      · show (⟨[IntKind.i64.wrap ((k : Int) + 1)], [], [], [], []⟩ : Vals) = _
        rw [hwk]
      · show bs.length - (IntKind.i64.wrap ((k : Int) + 1)).toNat < bs.length - ((k : Int)).toNat
        rw [hwk]; omega
  · refine br_f (show decide ((k : Int) < (bs.length : Int)) = false by simpa using hk) ?_
    intro ids w2 hp hf
    have hx2 := hf.x.2
    rw [List.take_of_length_le (by omega), show bs.length - k = 0 by omega, List.replicate_zero, List.append_nil] at hx2
    exact ⟨some ⟨i, 0, none⟩, bs.length, rfl, rw_cells hx2, fun _ => hiW, Nat.le_refl _, hf.chg.below⟩
theorem copyb_any (a : Option Addr) (cap : Nat) (bs : List Int) (w : World) (H : Cells w a (bcells bs)) (hl : bs.length ≤ 140737488355328) : Calls Try.prog 20 #[.slice a bs.length cap] w (NewBs w bs) :=
  (copyb_new a cap bs w H hl).mono fun _ _ h => h.bs
def SmI (xs ys : List Int) (hx0 : HX) (vs : Vals) (hx : HX) : Prop := ∃ k : Nat, k ≤ xs.length ∧ xs.take k = ys.take k ∧ vs = ⟨[(k : Int)], [], [], [], []⟩ ∧ hx = hx0
theorem take_step {xs ys : List Int} {k : Nat} {x y : Int} (hx : xs[k]? = some x) (hy : ys[k]? = some y) (h : xs.take k = ys.take k) : xs.take (k + 1) = ys.take (k + 1) ↔ x = y := by
  rw [List.take_add_one, List.take_add_one, hx, hy, h]
  simp
theorem sameb_any (a : Option Addr) (cap : Nat) (xs : List Int) (a2 : Option Addr) (cap2 : Nat) (ys : List Int) (w : World) (H : Cells w a (bcells xs)) (H2 : Cells w a2 (bcells ys)) (hl : xs.length ≤ 140737488355328) : Calls Try.prog 18 #[.slice a xs.length cap, .slice a2 ys.length cap2] w (PureAt w (.bool (decide (xs = ys)))) := by
  refine calls_at (tab_ok _) Try.func18 rfl tSameB (ρ := ⟨[], [], [], [xs.length, cap, ys.length, cap2], [a, a2]⟩) (ids := []) rfl (Facts.initP rfl oneNil) ?_
  by_cases hlen : xs.length = ys.length
  · refine br_f (show ((xs.length : Int) != (ys.length : Int)) = false by simp [hlen]) ?_
    refine loop_i (SmI xs ys HX.nil) (fun vs => xs.length - (vs.i.headD 0).toNat) (fun ids w2 hp hf => ⟨HX.nil, HXok.none _ _, 0, by omega, rfl, rfl, rfl⟩) ?_
    rintro vs hx' hcnt ⟨k, hk1, htk, rfl, rfl⟩
    have hwk : IntKind.i64.wrap ((k : Int) + 1) = ((k + 1 : Nat) : Int) := by rw [wrap_i64 (by omega)]; omega
    by_cases hk : k < xs.length
    · refine br_t (show decide ((k : Int) < (xs.length : Int)) = true by simpa using hk) ?_
      obtain ⟨x, hx⟩ : ∃ b, xs[k]? = some b := ⟨_, List.getElem?_eq_getElem hk⟩
      obtain ⟨y, hy⟩ : ∃ b, ys[k]? = some b := ⟨_, List.getElem?_eq_getElem (by omega)⟩
      obtain ⟨s1, c1⟩ := b_elt H hx
      obtain ⟨s2, c2⟩ := b_elt H2 hy
      have no : x ≠ y → decide (xs = ys) = false := fun h => decide_eq_false fun q => by
        subst q; rw [hx] at hy; exact h (Option.some.inj hy)
      have yes : x = y → ∀ vs, vs = ⟨[IntKind.i64.wrap ((k : Int) + 1)], [], [], [], []⟩ → ∀ (w : World) (ids : List Nat), ∃ hx', HXok hx' w ids ∧ ∃ I, lkup 4 [(4, fun vs' hx'' => SmI xs ys HX.nil vs' hx'' ∧ xs.length - (vs'.i.headD 0).toNat < xs.length - (((⟨[(k : Int)], [], [], [], []⟩ : Vals)).i.headD 0).toNat)] = some I ∧ I vs hx' := by
        rintro e vs rfl w ids
        refine ⟨HX.nil, HXok.none _ _, _, rfl, ⟨k + 1, by omega, (take_step hx hy htk).2 e, by rw [hwk], rfl⟩, ?_⟩
        show xs.length - (IntKind.i64.wrap ((k : Int) + 1)).toNat < xs.length - ((k : Int)).toNat
        rw [hwk]; omega
      refine need_i ⟨s1, (show (0 : Int) ≤ k by omega), (show (k : Int) < xs.length by omega)⟩ ?_
      refine need_i ⟨s2, (show (0 : Int) ≤ k by omega), (show (k : Int) < ys.length by omega)⟩ ?_
      refine par_i ?_ ?_
      · refine ⟨⟨[x], [], [], [], []⟩, fun ids => c1 _ (fun e => e), ⟨rfl, oneNil⟩, ?_⟩
        refine ⟨⟨[y], [], [], [], []⟩, fun ids => c2 _ (fun e => e), ⟨rfl, oneNil⟩, ?_⟩
        by_cases e : x = y
        · exact br_f (show (x != y) = false by simp [e]) (fun ids w2 hp hf => yes e _ rfl _ _)
        · exact br_t (show (x != y) = true by simpa using e) (pure_done fun _ => by rw [no e]; rfl)
      · refine ⟨⟨[y], [], [], [], []⟩, fun ids => c2 _ (fun e => e), ⟨rfl, oneNil⟩, ?_⟩
        refine ⟨⟨[x], [], [], [], []⟩, fun ids => c1 _ (fun e => e), ⟨rfl, oneNil⟩, ?_⟩
        by_cases e : x = y
        · exact br_f (show (x != y) = false by simp [e]) (fun ids w2 hp hf => yes e _ rfl _ _)
        · exact br_t (show (x != y) = true by simpa using e) (pure_done fun _ => by rw [no e]; rfl)
    · refine br_f (show decide ((k : Int) < (xs.length : Int)) = false by simpa using hk) (pure_done fun _ => ?_)
      have : xs = ys := by rw [List.take_of_length_le (by omega), List.take_of_length_le (by omega)] at htk; exact htk
      rw [decide_eq_true this]; rfl
  · refine br_t (show ((xs.length : Int) != (ys.length : Int)) = true by simp; omega) (pure_done fun _ => ?_)
    rw [decide_eq_false (fun q => hlen (by rw [q]))]; rfl
end Go.Proofs.Ytadgaefmoobcoaa
