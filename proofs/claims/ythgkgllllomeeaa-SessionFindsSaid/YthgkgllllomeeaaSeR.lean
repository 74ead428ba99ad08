/- Sessions: the reference's At, Same, Valid, Copy. -/
import Derived.Test.YthgkgllllomeeaaSeX
import Derived.Test.YthgkgllllomeeaaSeQ
namespace Go.Proofs.Ythgkgllllomeeaa
open Go.ChangeShapes Go.WideShapes Go.ChangeAt Go.RowKit Go.Syn Go.Eng
set_option linter.unusedVariables false
set_option linter.unusedSimpArgs false
set_option maxRecDepth 100000
theorem se_sm {l : List SE} {i : Nat} {e : SE} {a : Option Addr} {w : World} (H : Cells w a (secells l)) (h : l[i]? = some e) : a.isSome = true :=
  (flat_part se_len H h (o := 0) e.cells (fun j u hj => by rw [Nat.zero_add]; exact hj) (by simp [SE.cells])).1
theorem kp_sm {l : List KpD} {i : Nat} {k : KpD} {a : Option Addr} {w : World} (H : Cells w a (kcells l)) (h : l[i]? = some k) : a.isSome = true :=
  (flat_part kp_len H h (o := 0) k.cells (fun j u hj => by rw [Nat.zero_add]; exact hj) (by simp [KpD.cells])).1
theorem kp_all {l : List KpD} {k : KpD} (i : Nat) (h : l[i]? = some k) {a : Option Addr} {w : World} (H : Cells w a (kcells l)) : CellsAt w (.pointer (some (((a.getD ⟨0, 0, none⟩).add (i * 4)).add 0))) k.cells (fun _ => False) :=
  (flat_part kp_len H h (o := 0) k.cells (fun j u hj => by rw [Nat.zero_add]; exact hj) (by simp [KpD.cells])).2 _ (fun q => q)
theorem se_all {l : List SE} {e : SE} (i : Nat) (h : l[i]? = some e) {a : Option Addr} {w : World} (H : Cells w a (secells l)) : CellsAt w (.pointer (some (((a.getD ⟨0, 0, none⟩).add (i * 3)).add 0))) e.cells (fun _ => False) :=
  (flat_part se_len H h (o := 0) e.cells (fun j u hj => by rw [Nat.zero_add]; exact hj) (by simp [SE.cells])).2 _ (fun q => q)
def atV (t : List SsD) (no : Int) : Int := if hitI (nosT t) no then (posI (nosT t) no : Int) else -1
def AtI (es : List SE) (no : Int) (vs : Vals) (hx : HX) : Prop := ∃ k : Nat, k ≤ es.length ∧ (∀ (x : Nat) (e : SE), x < k → es[x]? = some e → e.s.no ≠ no) ∧ vs = ⟨[(k : Int)], [], [], [], []⟩ ∧ hx = HX.nil
theorem rat_any (a : Option Addr) (cap : Nat) (es : List SE) (no : Int) (w : World) (H : TbAt w a es) (hr : Rise (nosT (es.map SE.s))) (hl : es.length ≤ 4611686018427387904) : Calls Try.prog 15 #[.slice a es.length cap, .int .i64 no] w (PureAt w (.int .i64 (atV (es.map SE.s) no))) := by
  refine calls_at (tab_ok _) Try.func15 rfl tRAt (ρ := ⟨[no], [], [], [es.length, cap], [a]⟩) (ids := []) (hx := HX.nil) rfl (Facts.initP rfl oneNil) ?_
  obtain ⟨ks, ek⟩ : ∃ ks, ks = nosT (es.map SE.s) := ⟨_, rfl⟩
  have hk : ∀ {x : Nat} {e : SE}, es[x]? = some e → ks[x]? = some e.s.no := fun h => by rw [ek]; unfold nosT; rw [List.getElem?_map, List.getElem?_map, h]; rfl
  have hk2 : ∀ {x : Nat} {y : Int}, ks[x]? = some y → ∃ e, es[x]? = some e ∧ e.s.no = y := fun {x y} h => by
    rw [ek] at h; unfold nosT at h
    rw [List.getElem?_map, List.getElem?_map] at h
    cases h4 : es[x]? with
    | none => rw [h4] at h; cases h
    | some e => rw [h4] at h; simp only [Option.map_some, Option.some.injEq] at h; exact ⟨e, rfl, h⟩
  have hkl : ks.length = es.length := by rw [ek]; unfold nosT; rw [List.length_map, List.length_map]
  unfold atV
  rw [← ek] at hr ⊢
  refine loop_i (AtI es no) (fun vs => es.length - (vs.i.headD 0).toNat) (fun ids w2 hp hf => ⟨HX.nil, HXok.none _ _, 0, Nat.zero_le _, fun x e h => absurd h (Nat.not_lt_zero _), rfl, rfl⟩) ?_
  rintro vs hx' hcnt ⟨k, hkk, h1, rfl, rfl⟩
  by_cases hlt : k < es.length
  · refine br_T (decide ((k : Int) < (es.length : Int))) (by kernel_rfl) (decide_eq_true (by omega)) ?_
    obtain ⟨e, he⟩ : ∃ e, es[k]? = some e := ⟨_, List.getElem?_eq_getElem hlt⟩
    refine need_k (a.isSome = true ∧ (0 : Int) ≤ k ∧ (k : Int) < es.length) (by kernel_rfl) ⟨se_sm H.row he, by omega, by omega⟩ ?_
    refine node_ld0 (k := ⟨2, 0, 0, 2, 1⟩) ⟨[e.s.no], [], [], [], []⟩ (.pointer (some (((a.getD ⟨0, 0, none⟩).add (k * 3)).add 0))) [.int .i64 e.s.no] (by intros; kernel_rfl) (by intros; kernel_rfl) (se_key k e he (n := 0) rfl H.row) ⟨rfl, oneNil⟩ (by kernel_rfl) oneNil ?_
    by_cases hq : e.s.no = no
    · refine br_T (e.s.no == no) (by kernel_rfl) (by simpa using hq) ?_
      have hp : posI ks no = k := posI_of (by omega) (fun x y hx hy => by
        have := hr x k y no hx hy (by rw [← hq]; exact hk he); exact this) (fun x y hx hy => by
        rcases Nat.lt_or_ge k x with z | z
        · have := hr k x no y z (by rw [← hq]; exact hk he) hy; omega
        · have : x = k := by omega
          subst this; rw [hk he, hq] at hy; cases hy; exact Int.le_refl _)
      have hh : hitI ks no = true := by rw [hit_iff, hp, ← hq]; exact hk he
      rw [if_pos hh, hp]
      exact pure_done (by intros; kernel_rfl)
    · refine br_F (e.s.no == no) (by kernel_rfl) (by simpa using hq) ?_
      have hwk : IntKind.i64.wrap ((k : Int) + 1) = ((k + 1 : Nat) : Int) := by rw [wrap_i64 (by omega)]; omega
      refine again_V ⟨[((k + 1 : Nat) : Int)], [], [], [], []⟩ rfl (fun ids => Eq.trans (b := ⟨[IntKind.i64.wrap ((k : Int) + 1)], [], [], [], []⟩) (by kernel_rfl) (by rw [hwk])) HX.nil (fun w2 ids hf => HXok.none _ _) ⟨⟨k + 1, by omega, fun x y hx hy => ?_, rfl, rfl⟩, ?_⟩
      · rcases Nat.lt_or_ge x k with z | z
        · exact h1 x y z hy
        · have : x = k := by omega
          subst this; rw [he] at hy; cases hy; exact hq
      · show es.length - (((k + 1 : Nat) : Int)).toNat < es.length - ((k : Int)).toNat
        omega
  · refine br_F (decide ((k : Int) < (es.length : Int))) (by kernel_rfl) (decide_eq_false (by omega)) ?_
    have hh : ¬ hitI ks no = true := fun q => by
      obtain ⟨e, he, hno⟩ := hk2 (hit_iff.1 q)
      exact h1 _ e (by have := (List.getElem?_eq_some_iff.1 he).1; omega) he hno
    rw [if_neg hh]
    exact pure_done (by intros; kernel_rfl)
def SaI (n : Nat) (vs : Vals) (hx : HX) : Prop := ∃ k : Nat, k ≤ n ∧ vs = ⟨[(k : Int)], [], [], [], []⟩ ∧ hx = HX.nil
set_option maxHeartbeats 2000000 in
theorem rsame_any (a : Option Addr) (cap : Nat) (es : List SE) (b : Option Addr) (cap2 : Nat) (fs : List SE) (w : World) (H : TbAt w a es) (H2 : TbAt w b fs) (hs : es.map SE.s = fs.map SE.s) (hl : es.length ≤ 1000000) (hkl : ∀ e ∈ es, e.s.kept.length ≤ 1000000) :
    Calls Try.prog 16 #[.slice a es.length cap, .slice b fs.length cap2] w (PureAt w (.bool true)) := by
  refine calls_at (tab_ok _) Try.func16 rfl tRSame (ρ := ⟨[], [], [], [es.length, cap, fs.length, cap2], [a, b]⟩) (ids := []) (hx := HX.nil) rfl (Facts.initP rfl oneNil) ?_
  have hlen : es.length = fs.length := by have := congrArg List.length hs; rwa [List.length_map, List.length_map] at this
  refine br_F ((es.length : Int) != (fs.length : Int)) (by kernel_rfl) (by rw [hlen]; simp) ?_
  refine loop_i (SaI es.length) (fun vs => es.length - (vs.i.headD 0).toNat) (fun ids w2 hp hf => ⟨HX.nil, HXok.none _ _, 0, Nat.zero_le _, rfl, rfl⟩) ?_
  rintro vs hx' hcnt ⟨k, hkk, rfl, rfl⟩
  by_cases hlt : k < es.length
  rotate_left
  · exact br_F (decide ((k : Int) < (es.length : Int))) (by kernel_rfl) (decide_eq_false (by omega)) (pure_done (by intros; kernel_rfl))
  refine br_T (decide ((k : Int) < (es.length : Int))) (by kernel_rfl) (decide_eq_true (by omega)) ?_
  obtain ⟨e, he⟩ : ∃ e, es[k]? = some e := ⟨_, List.getElem?_eq_getElem hlt⟩
  obtain ⟨f, hf⟩ : ∃ f, fs[k]? = some f := ⟨_, List.getElem?_eq_getElem (by omega)⟩
  have hef : e.s = f.s := by
    have h1 : (es.map SE.s)[k]? = (fs.map SE.s)[k]? := by rw [hs]
    rw [List.getElem?_map, List.getElem?_map, he, hf] at h1
    simpa using h1
  have n1 : a.isSome = true ∧ (0 : Int) ≤ k ∧ (k : Int) < es.length := ⟨se_sm H.row he, by omega, by omega⟩
  have n2 : b.isSome = true ∧ (0 : Int) ≤ k ∧ (k : Int) < fs.length := ⟨se_sm H2.row hf, by omega, by omega⟩
  refine need_k (a.isSome = true ∧ (0 : Int) ≤ k ∧ (k : Int) < es.length) (by kernel_rfl) n1 ?_
  refine node_ld0 (k := ⟨1, 0, 0, 4, 2⟩) ⟨[e.s.no], [], [], [], []⟩ (.pointer (some (((a.getD ⟨0, 0, none⟩).add (k * 3)).add 0))) [.int .i64 e.s.no] (by intros; kernel_rfl) (by intros; kernel_rfl) (se_key k e he (n := 0) rfl H.row) ⟨rfl, oneNil⟩ (by kernel_rfl) oneNil ?_
  refine need_k (b.isSome = true ∧ (0 : Int) ≤ k ∧ (k : Int) < fs.length) (by kernel_rfl) n2 ?_
  refine node_ld0 (k := ⟨2, 0, 0, 4, 2⟩) ⟨[e.s.no], [], [], [], []⟩ (.pointer (some (((b.getD ⟨0, 0, none⟩).add (k * 3)).add 0))) [.int .i64 e.s.no] (by intros; kernel_rfl) (by intros; kernel_rfl) (se_key k f hf (n := 0) (by rw [hef]; rfl) H2.row) ⟨rfl, oneNil⟩ (by kernel_rfl) oneNil ?_
  refine br_F (e.s.no != e.s.no) (by kernel_rfl) (by simp) ?_
  refine need_k (a.isSome = true ∧ (0 : Int) ≤ k ∧ (k : Int) < es.length) (by kernel_rfl) n1 ?_
  refine node_ld0 (k := ⟨3, 0, 0, 4, 2⟩) ⟨[e.s.ack], [], [], [], []⟩ (.pointer (some (((a.getD ⟨0, 0, none⟩).add (k * 3)).add 1))) [.int .i64 e.s.ack] (by intros; kernel_rfl) (by intros; kernel_rfl) (se_key k e he (n := 0) rfl H.row) ⟨rfl, oneNil⟩ (by kernel_rfl) oneNil ?_
  refine need_k (b.isSome = true ∧ (0 : Int) ≤ k ∧ (k : Int) < fs.length) (by kernel_rfl) n2 ?_
  refine node_ld0 (k := ⟨4, 0, 0, 4, 2⟩) ⟨[e.s.ack], [], [], [], []⟩ (.pointer (some (((b.getD ⟨0, 0, none⟩).add (k * 3)).add 1))) [.int .i64 e.s.ack] (by intros; kernel_rfl) (by intros; kernel_rfl) (se_key k f hf (n := 0) (by rw [hef]; rfl) H2.row) ⟨rfl, oneNil⟩ (by kernel_rfl) oneNil ?_
  refine br_F (e.s.ack != e.s.ack) (by kernel_rfl) (by simp) ?_
  obtain ⟨l, el⟩ : ∃ l, l = e.s.kept := ⟨_, rfl⟩
  have fl : f.s.kept = l := by rw [← hef, el]
  have he2 : e.cells[2]? = some (.slice e.a l.length e.c) := by rw [el]; rfl
  have hf2 : f.cells[2]? = some (.slice f.a l.length f.c) := by rw [← fl]; rfl
  have Ce : Cells w e.a (kcells l) := by rw [el]; exact H.each e (List.mem_of_getElem? he)
  have Cf : Cells w f.a (kcells l) := by rw [← fl]; exact H2.each f (List.mem_of_getElem? hf)
  refine need_k (a.isSome = true ∧ (0 : Int) ≤ k ∧ (k : Int) < es.length) (by kernel_rfl) n1 ?_
  refine node_ld0 (k := ⟨5, 0, 0, 4, 2⟩) ⟨[], [], [], [l.length, e.c], [e.a]⟩ (.pointer (some (((a.getD ⟨0, 0, none⟩).add (k * 3)).add 2))) [.slice e.a l.length e.c] (by intros; kernel_rfl) (by intros; kernel_rfl) (se_key k e he (n := 0) he2 H.row) ⟨rfl, oneNil⟩ (by kernel_rfl) oneNil ?_
  refine need_k (b.isSome = true ∧ (0 : Int) ≤ k ∧ (k : Int) < fs.length) (by kernel_rfl) n2 ?_
  refine node_ld0 (k := ⟨5, 0, 0, 6, 3⟩) ⟨[], [], [], [l.length, f.c], [f.a]⟩ (.pointer (some (((b.getD ⟨0, 0, none⟩).add (k * 3)).add 2))) [.slice f.a l.length f.c] (by intros; kernel_rfl) (by intros; kernel_rfl) (se_key k f hf (n := 0) hf2 H2.row) ⟨rfl, oneNil⟩ (by kernel_rfl) oneNil ?_
  refine br_F ((l.length : Int) != (l.length : Int)) (by kernel_rfl) (by simp) ?_
  refine need_k (a.isSome = true ∧ (0 : Int) ≤ k ∧ (k : Int) < es.length) (by kernel_rfl) n1 ?_
  refine node_ld0 (k := ⟨5, 0, 0, 8, 4⟩) ⟨[], [], [], [l.length, e.c], [e.a]⟩ (.pointer (some (((a.getD ⟨0, 0, none⟩).add (k * 3)).add 2))) [.slice e.a l.length e.c] (by intros; kernel_rfl) (by intros; kernel_rfl) (se_key k e he (n := 0) he2 H.row) ⟨rfl, oneNil⟩ (by kernel_rfl) oneNil ?_
  refine loop_i (SaI l.length) (fun vs => l.length - (vs.i.headD 0).toNat) (fun ids w2 hp hf => ⟨HX.nil, HXok.none _ _, 0, Nat.zero_le _, rfl, rfl⟩) ?_
  rintro vs hx' hcnt2 ⟨j, hj, rfl, rfl⟩
  refine holds_env (ρ' := ⟨[(k : Int), e.s.no, e.s.no, e.s.ack, e.s.ack, (j : Int)], [], [], [es.length, cap, fs.length, cap2, l.length, e.c, l.length, f.c, l.length, e.c], [a, b, e.a, f.a, e.a]⟩) (by kernel_rfl) ?_
  by_cases hlt2 : j < l.length
  · refine br_T (decide ((j : Int) < (l.length : Int))) (by kernel_rfl) (decide_eq_true (by omega)) ?_
    obtain ⟨p, hp⟩ : ∃ p, l[j]? = some p := ⟨_, List.getElem?_eq_getElem hlt2⟩
    refine need_k (a.isSome = true ∧ (0 : Int) ≤ k ∧ (k : Int) < es.length) (by kernel_rfl) n1 ?_
    refine node_ld0 (k := ⟨6, 0, 0, 10, 5⟩) ⟨[], [], [], [l.length, e.c], [e.a]⟩ (.pointer (some (((a.getD ⟨0, 0, none⟩).add (k * 3)).add 2))) [.slice e.a l.length e.c] (by intros; kernel_rfl) (by intros; kernel_rfl) (se_key k e he (n := 0) he2 H.row) ⟨rfl, oneNil⟩ (by kernel_rfl) oneNil ?_
    refine need_k (e.a.isSome = true ∧ (0 : Int) ≤ j ∧ (j : Int) < l.length) (by kernel_rfl) ⟨kp_sm Ce hp, by omega, by omega⟩ ?_
    refine node_ld0 (k := ⟨6, 0, 0, 12, 6⟩) ⟨[p.seq, p.kind, p.re, p.im], [], [], [], []⟩ (.pointer (some (((e.a.getD ⟨0, 0, none⟩).add (j * 4)).add 0))) p.cells (by intros; kernel_rfl) (by intros; kernel_rfl) (kp_all j hp Ce) ⟨rfl, oneNil⟩ (by kernel_rfl) oneNil ?_
    refine need_k (b.isSome = true ∧ (0 : Int) ≤ k ∧ (k : Int) < fs.length) (by kernel_rfl) n2 ?_
    refine node_ld0 (k := ⟨10, 0, 0, 12, 6⟩) ⟨[], [], [], [l.length, f.c], [f.a]⟩ (.pointer (some (((b.getD ⟨0, 0, none⟩).add (k * 3)).add 2))) [.slice f.a l.length f.c] (by intros; kernel_rfl) (by intros; kernel_rfl) (se_key k f hf (n := 0) hf2 H2.row) ⟨rfl, oneNil⟩ (by kernel_rfl) oneNil ?_
    refine need_k (f.a.isSome = true ∧ (0 : Int) ≤ j ∧ (j : Int) < l.length) (by kernel_rfl) ⟨kp_sm Cf hp, by omega, by omega⟩ ?_
    refine node_ld0 (k := ⟨10, 0, 0, 14, 7⟩) ⟨[p.seq, p.kind, p.re, p.im], [], [], [], []⟩ (.pointer (some (((f.a.getD ⟨0, 0, none⟩).add (j * 4)).add 0))) p.cells (by intros; kernel_rfl) (by intros; kernel_rfl) (kp_all j hp Cf) ⟨rfl, oneNil⟩ (by kernel_rfl) oneNil ?_
    refine br_F (!((p.seq == p.seq) && ((p.kind == p.kind) && ((p.re == p.re) && (p.im == p.im))))) (by kernel_rfl) (by simp) ?_
    have hwj : IntKind.i64.wrap ((j : Int) + 1) = ((j + 1 : Nat) : Int) := by
      have := hkl e (List.mem_of_getElem? he)
      rw [← el] at this
      rw [wrap_i64 (by omega)]; omega
    exact again_V ⟨[((j + 1 : Nat) : Int)], [], [], [], []⟩ rfl (fun ids => Eq.trans (b := ⟨[IntKind.i64.wrap ((j : Int) + 1)], [], [], [], []⟩) (by kernel_rfl) (by rw [hwj])) HX.nil (fun w2 ids hf => HXok.none _ _) ⟨⟨j + 1, by omega, rfl, rfl⟩, by
      show l.length - (((j + 1 : Nat) : Int)).toNat < l.length - ((j : Int)).toNat
      omega⟩
  · refine br_F (decide ((j : Int) < (l.length : Int))) (by kernel_rfl) (decide_eq_false (by omega)) ?_
    have hwk : IntKind.i64.wrap ((k : Int) + 1) = ((k + 1 : Nat) : Int) := by rw [wrap_i64 (by omega)]; omega
    exact again_V ⟨[((k + 1 : Nat) : Int)], [], [], [], []⟩ rfl (fun ids => Eq.trans (b := ⟨[IntKind.i64.wrap ((k : Int) + 1)], [], [], [], []⟩) (by kernel_rfl) (by rw [hwk])) HX.nil (fun w2 ids hf => HXok.none _ _) ⟨⟨k + 1, by omega, rfl, rfl⟩, by
      show es.length - (((k + 1 : Nat) : Int)).toNat < es.length - ((k : Int)).toNat
      omega⟩
end Go.Proofs.Ythgkgllllomeeaa
