/- Answers whose bytes are one's own; copies of messages beside a fetch. -/
import Derived.Test.YtgphmdccmaibmaaPartG
import Derived.Test.YtgphmdccmaibmaaFetNil
import Derived.Test.YtgphmdccmaibmaaFetW
namespace Go.Proofs.Ytgphmdccmaibmaa
open Go.ChangeShapes Go.WideShapes Go.ChangeAt Go.RowKit Go.Syn Go.Eng
set_option linter.unusedVariables false
set_option linter.unusedSimpArgs false
/-- What makes bytes of one's own and tells of them. -/
def NewO (w : World) (V : Value → Value) (bs : List Int) (e : Ending) (w' : World) : Prop := ∃ a' c', e = .returned (V (.slice a' bs.length c')) ∧ (frow a' c' bs).X w' ∧ (∀ k, c' ≠ 0 → abk a' = some k → w.heap.size ≤ k) ∧ Below w.heap.size w w'
theorem row_some {a : Option Addr} {cap : Nat} {bs : List Int} {w : World} (h : (frow a cap bs).X w) (hne : bs ≠ []) : a.isSome = true := by
  have hc : cap ≠ 0 := fun q => by
    rcases h with ⟨_, _, h3⟩ | ⟨h3, _⟩
    · exact hne (bcells_nil.1 h3)
    · exact h3 q
  obtain ⟨g, _, rfl, _⟩ := rw_open h hc
  rfl
section
variable {C : Cfg} {ρ : Env} {pre : List Nat} {hx rest : HX} {L : Stack} {m m' : Mem} {args : List SV} {r : SV} {t : Tree} {a : Option Addr} {cap : Nat} {g : List Int}
theorem node_newo {f : Nat} {V : Value → Value} {bs : List Int} (AS : Array Value) (vs : Option Addr → Nat → Vals) (hargs : ∀ ids, (args.map (SV.den ρ ids)).toArray = AS) (hcall : ∀ ids w, pre <+: ids → Facts C m ρ ids hx w → Calls C.P f AS w (NewO w V bs))
    (hr : ∀ a' c' ids, r.den (ρ.add (vs a' c')) ids = V (.slice a' bs.length c')) (hhp : m'.hp = m.hp) (hfit : hpFits m.c m.hp.length m.hp = true) (hc : ∀ a' c', (ρ.add (vs a' c')).cnt = m'.c) (h1 : ∀ a' c' v, v ∈ (vs a' c').v → v.oneCell' = true)
    (h : ∀ a' c', (bs ≠ [] → a'.isSome = true) → (∀ k, c' ≠ 0 → abk a' = some k → C.W.heap.size ≤ k ∧ ¬ hx.F k) → t.holds C (ρ.add (vs a' c')) pre (hx.and (frow a' c' bs)) L) : (Tree.call f args m r m' t).holds C ρ pre hx L := by
  intro ids w hp hf
  rw [hargs]
  refine (hcall ids w hp hf).mono ?_
  rintro e w' ⟨a', c', rfl, hX, hge, hbel⟩
  have hg : w.grownBy w' none := ⟨hbel.os, hbel.tape, hbel.output, hbel.size, fun k hk _ => hbel.block k hk⟩
  refine ⟨_, ids, _, by rw [← hr a' c' ids], List.prefix_refl _, hf.turn (hx' := hx.and (frow a' c' bs)) hg (fun b e => by cases e) ⟨hx.loc w w' hf.x fun k hk => hbel.block k (hf.sep k hk).1, hX⟩ (fun k hk => ?_) hhp hfit (hc _ _) (h1 _ _), holds_pre t hp (h a' c' (row_some hX) (fun k h2 h3 => ⟨Nat.le_trans hf.chg.size (hge k h2 h3), fun q => by have := (hf.sep _ q).1; have := hge k h2 h3; omega⟩))⟩
  rcases hk with hk | hk
  · exact .inl hk
  · refine .inr ⟨hge k hk.1 hk.2, ?_⟩
    obtain ⟨g, _, e, q, _⟩ := rw_open hX hk.1
    have h3 := hk.2
    rw [e] at h3; cases h3; exact q
end
set_option maxRecDepth 100000 in
theorem piece_own (a : Option Addr) (cap : Nat) (bs : List Int) (n : Nat) (w : World) (H : Cells w a (bcells bs)) (hl : bs.length ≤ 140737488351232) (hcap : bs.length ≤ cap) (h2 : n < bs.length) : Calls Try.prog 22 #[.slice a bs.length cap, .int .i64 (n : Int)] w (NewO w id ((bs.drop n).take 1024)) := by
  refine calls_at (tab_ok _) Try.func22 rfl tPiece (ρ := ⟨[(n : Int)], [], [], [bs.length, cap], [a]⟩) (ids := []) (hx := HX.cl a (bcells bs)) rfl (Facts.initq rfl oneNil H (cl_sep H)) ?_
  refine br_f (show decide ((n : Int) < 0) = false by simp) (br_f (show decide ((n : Int) ≥ (bs.length : Int)) = false by simp; omega) ?_)
  have hw1 : IntKind.i64.wrap ((n : Int) + 1024) = (n : Int) + 1024 := wrap_i64 (by omega)
  obtain ⟨u, hu0⟩ : ∃ u, u = min bs.length (n + 1024) := ⟨_, rfl⟩
  have hu : min (bs.length : Int) (IntKind.i64.wrap ((n : Int) + 1024)) = (u : Int) := by rw [hw1]; omega
  have hlen : ((bs.drop n).take 1024).length = u - n := by rw [List.length_take, List.length_drop]; omega
  refine node_span (l := n) (u := u) (n := bs.length) (cap := cap) (sz := 1) a Try.underlying22 rfl info_byte (fun _ => rfl) (fun _ => rfl) (fun _ => ?_) (by omega) (by omega) (fun _ => rfl) rfl rfl rfl ?_
  · show Value.int .i64 (min (bs.length : Int) (IntKind.i64.wrap ((n : Int) + 1024))) = _
    rw [hu]
  refine node_appends (xs := []) (ys := bcells ((bs.drop n).take 1024)) rfl Try.underlying22 info_byte rfl (by decide) none 0 0 (fun _ => sliA a n cap 1) (u - n) (cap - n) (by rw [bcells_len, hlen, Nat.mul_one]) (fun ids w _ _ => HX.rw_nil _ _ _ w) (fun ids w2 hp hf => ?_) (bcells_one _) (fun w h => ⟨h, fun _ q => q⟩) (fun k h => absurd rfl h) (fun k h => absurd rfl h) (fun k h => absurd rfl h) (by unfold maxLen; omega) (by omega) (fun _ => rfl) (fun _ _ => rfl) (fun _ _ _ => rfl) rfl rfl (fun _ _ => rfl) ?_
  · have := sli_cells hf.x n 1024 cap 1 (by rw [bcells_len]; omega) (by rw [bcells_len]; omega) (by decide)
    rw [Nat.mul_one, bcells_sub] at this
    exact this
  intro a' c' h0 _ hfr ids w2 hp hf
  refine ⟨a', c', ?_, ?_, fun k h1 h2 => (hfr k h1 h2).elim (fun q => absurd rfl q.1) (fun q => q.1), hf.chg.below⟩
  · rw [hlen]; show Ending.returned (.slice a' (0 + _) c') = _; rw [Nat.zero_add]; rfl
  · have := hf.x.2
    rw [List.nil_append, Nat.zero_add, ← hlen] at this
    exact this
set_option maxRecDepth 100000 in
theorem answer_own (slot : Int) (n : Nat) (a : Option Addr) (cap : Nat) (bs : List Int) (w : World) (H : Cells w a (bcells bs)) (hl : bs.length ≤ 140737488351232) (hcap : bs.length ≤ cap) (h2 : n < bs.length) :
    Calls Try.prog 13 #[.int .i64 slot, .slice a bs.length cap, .agg (msgV 11 slot n (.slice none 0 0))] w (NewO w (fun v => .tuple #[.agg (msgV 12 slot n v), .bool true]) ((bs.drop n).take 1024)) := by
  refine calls_at (tab_ok _) Try.func13 rfl tAnswer (ρ := ⟨[11, slot, (n : Int), slot], [], [], [bs.length, cap], [a]⟩) (ids := []) (hx := HX.cl a (bcells bs)) rfl (Facts.initq rfl oneNil H (cl_sep H)) ?_
  refine node_newo (V := id) (bs := (bs.drop n).take 1024) _ (fun a' c' => ⟨[], [], [], [((bs.drop n).take 1024).length, c'], [a']⟩) (by intros; kernel_rfl) (fun ids w2 hp hf => (piece_own a cap bs n w2 hf.x hl hcap h2)) (by intros; kernel_rfl) (by intros; kernel_rfl) (by intros; kernel_rfl) (by intros; kernel_rfl) (fun _ _ => oneNil) ?_
  intro a1 c1 _ hn1
  have hne : ((((bs.drop n).take 1024).length : Int) == 0) = false := by
    have : ((bs.drop n).take 1024).length ≠ 0 := by rw [List.length_take, List.length_drop]; omega
    simp only [beq_eq_false_iff_ne]; omega
  refine br_f rfl (br_f (show (slot != slot) = false by simp) (br_f hne ?_))
  intro ids w2 hp2 hf
  exact ⟨a1, c1, rfl, hf.x.2, fun k h1 h2 => (hn1 k h1 h2).1, hf.chg.below⟩
section
variable {C : Cfg} {ρ : Env} {pre : List Nat} {hx rest : HX} {L : Stack} {m m' : Mem} {args : List SV} {r : SV} {t : Tree} {a : Option Addr} {cap : Nat} {g : List Int}
/-- An answer beside a fetch. -/
theorem node_anso {slot : Int} {n : Nat} {sa : Option Addr} {sc : Nat} {bs p : List Int} (hP : C.P = Try.prog) (hok : RowOk C a cap rest) (hc0 : ∀ w, rest.X w → Cells w sa (bcells bs)) (hl : bs.length ≤ 140737488351232) (hsc : bs.length ≤ sc) (hp : (bs.drop n).take 1024 = p) (hn : n < bs.length) (hargs : ∀ ids, (args.map (SV.den ρ ids)).toArray = #[.int .i64 slot, .slice sa bs.length sc, .agg (msgV 11 slot n (.slice none 0 0))])
    (hr : ∀ a' c' ids, r.den (ρ.add ⟨[12, 0, 0, 0, 0, 0, slot, (n : Int), 0, 0, 0, 0, 0, 0, 0, 0, 0, 0, 0, 0, 0], [true], [], [0, 0, 0, 0, 0, 0, p.length, c'], [none, none, none, a']⟩) ids = .tuple #[.agg (msgV 12 slot n (.slice a' p.length c')), .bool true]) (hhp : m'.hp = m.hp) (hfit : hpFits m.c m.hp.length m.hp = true) (hc : ∀ a' c', (ρ.add ⟨[12, 0, 0, 0, 0, 0, slot, (n : Int), 0, 0, 0, 0, 0, 0, 0, 0, 0, 0, 0, 0, 0], [true], [], [0, 0, 0, 0, 0, 0, p.length, c'], [none, none, none, a']⟩).cnt = m'.c)
    (h : ∀ a' c', (p ≠ [] → a'.isSome = true) → (∀ k, c' ≠ 0 → abk a' = some k → C.W.heap.size ≤ k ∧ ¬ rest.F k ∧ ¬ (frow a cap g).F k) → RowOk C a cap (rest.and (frow a' c' p)) → t.holds C (ρ.add ⟨[12, 0, 0, 0, 0, 0, slot, (n : Int), 0, 0, 0, 0, 0, 0, 0, 0, 0, 0, 0, 0, 0], [true], [], [0, 0, 0, 0, 0, 0, p.length, c'], [none, none, none, a']⟩) pre ((rest.and (frow a' c' p)).and (frow a cap g)) L) : (Tree.call 13 args m r m' t).holds C ρ pre (rest.and (frow a cap g)) L := by
  subst hp
  refine node_newo (V := fun v => .tuple #[.agg (msgV 12 slot n v), .bool true]) (bs := (bs.drop n).take 1024) _ (fun a' c' => ⟨[12, 0, 0, 0, 0, 0, slot, (n : Int), 0, 0, 0, 0, 0, 0, 0, 0, 0, 0, 0, 0, 0], [true], [], [0, 0, 0, 0, 0, 0, ((bs.drop n).take 1024).length, c'], [none, none, none, a']⟩) hargs (fun ids w _ hf => by rw [hP]; exact answer_own slot n sa sc bs w (hc0 w hf.x.1) hl hsc hn) (fun a' c' ids => hr a' c' ids) hhp hfit hc (fun _ _ => oneNil) (fun a' c' hs hk => ?_)
  rw [HX.and_right_comm]
  refine h a' c' hs (fun k h1 h2 => ⟨(hk k h1 h2).1, fun q => (hk k h1 h2).2 (.inl q), fun q => (hk k h1 h2).2 (.inr q)⟩) (fun k h1 h2 => ⟨(hok k h1 h2).1, fun hF => hF.elim (hok k h1 h2).2 fun hF => (hk k hF.1 hF.2).2 (.inr ⟨h1, h2⟩)⟩)
/-- A copy of a message beside a fetch. -/
theorem node_cpmr (q : Mg) (hP : C.P = Try.prog) (hrow : RowOk C a cap rest) (hok : ∀ ids w, pre <+: ids → Facts C m ρ ids (rest.and (frow a cap g)) w → MgOk w q) (hargs : ∀ ids, (args.map (SV.den ρ ids)).toArray = #[.agg q.v])
    (hr : ∀ a0 c0 a1 c1 av cv ad cd ids, r.den (ρ.add ⟨q.i.is, [], [], [q.n0, c0, q.n1, c1, q.vs.length, cv, q.bs.length, cd], [a0, a1, av, ad]⟩) ids = .agg (mgV q.i (.slice a0 q.n0 c0) (.slice a1 q.n1 c1) (.slice av q.vs.length cv) (.slice ad q.bs.length cd)))
    (hhp : m'.hp = m.hp) (hfit : hpFits m.c m.hp.length m.hp = true) (hc : ∀ a0 c0 a1 c1 av cv ad cd, (ρ.add ⟨q.i.is, [], [], [q.n0, c0, q.n1, c1, q.vs.length, cv, q.bs.length, cd], [a0, a1, av, ad]⟩).cnt = m'.c)
    (h : ∀ a0 c0 a1 c1 av cv ad cd, RowOk C a cap (rest.and (HX.cl ad (bcells q.bs))) → t.holds C (ρ.add ⟨q.i.is, [], [], [q.n0, c0, q.n1, c1, q.vs.length, cv, q.bs.length, cd], [a0, a1, av, ad]⟩) pre ((rest.and (HX.cl ad (bcells q.bs))).and (frow a cap g)) L) : (Tree.call 15 args m r m' t).holds C ρ pre (rest.and (frow a cap g)) L :=
  node_cpm q hP hok hargs hr hhp hfit hc (fun a0 c0 a1 c1 av cv ad cd hn => by
    rw [HX.and_right_comm]
    refine h a0 c0 a1 c1 av cv ad cd (fun k h1 h2 => ⟨(hrow k h1 h2).1, fun hF => hF.elim (hrow k h1 h2).2 fun hF => ?_⟩)
    obtain ⟨h3, rfl⟩ := hF
    exact (hn (fun e => h3 (by rw [e]; rfl))).2 (.inr ⟨h1, h2⟩))
end
/-- A message without lists. -/
def mg0 (k slot low : Int) (ad : Option Addr) (cd : Nat) (bs : List Int) : Mg := ⟨⟨k, 0, 0, 0, 0, 0, slot, low, 0, 0, 0, 0, 0, 0, 0, 0, 0, 0, 0, 0, 0⟩, none, 0, 0, [], none, 0, 0, [], none, 0, [], ad, cd, bs⟩
theorem slOk_nil (w : World) (sz bytes : Nat) : SlOk w none 0 sz bytes [] := ⟨fun h => by simp at h, by simp, by simp, by unfold maxLen; omega, by omega⟩
theorem mg0_ok {w : World} {k slot low : Int} {ad : Option Addr} {cd : Nat} {bs : List Int} (H : Cells w ad (bcells bs)) (hl : bs.length ≤ 140737488355328) : MgOk w (mg0 k slot low ad cd bs) :=
  ⟨slOk_nil _ _ _, slOk_nil _ _ _, ⟨fun h => by simp [mg0, vcells] at h, by simp [mg0], by simp [mg0]⟩, H, hl⟩
end Go.Proofs.Ytgphmdccmaibmaa
