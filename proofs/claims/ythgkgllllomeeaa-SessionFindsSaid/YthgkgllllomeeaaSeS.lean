/- Sessions: the reference's Valid and Copy. -/
import Derived.Test.YthgkgllllomeeaaSeR
namespace Go.Proofs.Ythgkgllllomeeaa
open Go.ChangeShapes Go.WideShapes Go.ChangeAt Go.RowKit Go.Syn Go.Eng
set_option linter.unusedVariables false
set_option linter.unusedSimpArgs false
set_option maxRecDepth 100000
def RvI (t : List SsD) (vs : Vals) (hx : HX) : Prop := ∃ (k : Nat) (last : Int), k ≤ t.length ∧ validS last (t.drop k) = validS 0 t ∧ ((k = 0 ∧ last = 0) ∨ ∃ s, 0 < k ∧ t[k - 1]? = some s ∧ last = s.no ∧ 1 ≤ last) ∧ vs = ⟨[(k : Int)], [], [], [], []⟩ ∧ hx = HX.nil
def RwI (l : List KpD) (ack : Int) (vs : Vals) (hx : HX) : Prop := ∃ (j : Nat) (seq : Int), j ≤ l.length ∧ validK seq (l.drop j) = validK ack l ∧ ((j = 0 ∧ seq = ack) ∨ ∃ p, 0 < j ∧ l[j - 1]? = some p ∧ seq = p.seq ∧ ack < seq) ∧ vs = ⟨[(j : Int)], [], [], [], []⟩ ∧ hx = HX.nil
def JfI (P : Prop) (vs : Vals) (hx : HX) : Prop := P ∧ vs = ⟨[], [], [], [], []⟩ ∧ hx = HX.nil
set_option maxHeartbeats 4000000 in
theorem rvalid_any (a : Option Addr) (cap : Nat) (es : List SE) (w : World) (H : TbAt w a es) : Calls Try.prog 12 #[.slice a es.length cap] w (PureAt w (.bool (validT (es.map SE.s)))) := by
  refine calls_at (tab_ok _) Try.func12 rfl tRValid (ρ := ⟨[], [], [], [es.length, cap], [a]⟩) (ids := []) (hx := HX.nil) rfl (Facts.initP rfl oneNil) ?_
  obtain ⟨t, et⟩ : ∃ t, t = es.map SE.s := ⟨_, rfl⟩
  rw [← et]
  have htl : t.length = es.length := by rw [et, List.length_map]
  have fin : validT t = false → ∀ {m : Mem} {ρ : Env} {pre : List Nat} {L : Stack}, (Tree.done (.lf (.bool (.lit false))) m).holds ⟨Try.prog, w, fun _ => False, PureAt w (.bool (validT t))⟩ ρ pre HX.nil L := fun h {m ρ pre L} => by
    rw [h]; exact pure_done (fun ids => rfl)
  by_cases hbig : es.length > 16
  · exact br_T (decide ((es.length : Int) > 16)) (by kernel_rfl) (decide_eq_true (by omega)) (fin (by unfold validT; rw [decide_eq_false (by omega), Bool.and_false]))
  refine br_F (decide ((es.length : Int) > 16)) (by kernel_rfl) (decide_eq_false (by omega)) ?_
  have h16 : validT t = validS 0 t := by unfold validT; rw [decide_eq_true (by omega), Bool.and_true]
  refine loop_i (RvI t) (fun vs => t.length - (vs.i.headD 0).toNat) (fun ids w2 hp hf => ⟨HX.nil, HXok.none _ _, 0, 0, Nat.zero_le _, rfl, .inl ⟨rfl, rfl⟩, rfl, rfl⟩) ?_
  rintro vs hx' hcnt ⟨k, last, hk, hv, hlast, rfl, rfl⟩
  by_cases hlt : k < es.length
  rotate_left
  · refine br_F (decide ((k : Int) < (es.length : Int))) (by kernel_rfl) (decide_eq_false (by omega)) ?_
    obtain rfl : k = t.length := by omega
    rw [List.drop_length] at hv
    rw [h16, ← hv]
    exact pure_done (fun ids => rfl)
  refine br_T (decide ((k : Int) < (es.length : Int))) (by kernel_rfl) (decide_eq_true (by omega)) ?_
  obtain ⟨e, he⟩ : ∃ e, es[k]? = some e := ⟨_, List.getElem?_eq_getElem hlt⟩
  have hem := List.mem_of_getElem? he
  have hts : t[k]? = some e.s := by rw [et, List.getElem?_map, he]; rfl
  have hdr : t.drop k = e.s :: t.drop (k + 1) := by
    obtain ⟨h1, h2⟩ := List.getElem?_eq_some_iff.1 hts
    rw [List.drop_eq_getElem_cons h1, h2]
  rw [hdr] at hv
  have hbad : (last < e.s.no ∧ e.s.no ≤ 1073741824 ∧ 0 ≤ e.s.ack ∧ e.s.ack ≤ 1099511627776 ∧ e.s.kept.length ≤ 8 → validK e.s.ack e.s.kept = false) → validT t = false := fun h => by
    rw [h16, ← hv]
    unfold validS
    by_cases hc : last < e.s.no ∧ e.s.no ≤ 1073741824 ∧ 0 ≤ e.s.ack ∧ e.s.ack ≤ 1099511627776 ∧ e.s.kept.length ≤ 8
    · rw [h hc, Bool.and_false, Bool.false_and]
    · rw [decide_eq_false hc, Bool.false_and, Bool.false_and]
  have hl0 : 0 ≤ last := by rcases hlast with ⟨_, h⟩ | ⟨s, _, _, _, h⟩ <;> omega
  refine need_k (a.isSome = true ∧ (0 : Int) ≤ k ∧ (k : Int) < es.length) (by kernel_rfl) ⟨se_sm H.row he, by omega, by omega⟩ ?_
  refine node_ld0 (k := ⟨1, 0, 0, 2, 1⟩) ⟨[e.s.no, e.s.ack], [], [], [e.s.kept.length, e.c], [e.a]⟩ (.pointer (some (((a.getD ⟨0, 0, none⟩).add (k * 3)).add 0))) e.cells (by intros; kernel_rfl) (by intros; kernel_rfl) (se_all k he H.row) ⟨rfl, oneNil⟩ (by kernel_rfl) oneNil ?_
  refine ⟨JfI (last < e.s.no ∧ e.s.no ≤ 1073741824 ∧ 0 ≤ e.s.ack ∧ e.s.ack ≤ 1099511627776 ∧ e.s.kept.length ≤ 8), ?_, ?_⟩
  · by_cases h1 : e.s.no < 1
    · exact br_T (decide (e.s.no < 1)) (by kernel_rfl) (decide_eq_true h1) (fin (hbad (fun q => by omega)))
    refine br_F (decide (e.s.no < 1)) (by kernel_rfl) (decide_eq_false h1) ?_
    by_cases h2 : e.s.no > 1073741824
    · exact br_T (decide (e.s.no > 1073741824)) (by kernel_rfl) (decide_eq_true h2) (fin (hbad (fun q => by omega)))
    refine br_F (decide (e.s.no > 1073741824)) (by kernel_rfl) (decide_eq_false h2) ?_
    have tail : last < e.s.no → ∀ {m1 m2 m3 m4 : Mem} {ρ : Env} {L : Stack} {es1 : Vec} {x y : IE} {n : Nat}, x.den ρ = e.s.ack → y.den ρ = e.s.ack → (IE.nat n).den ρ = (e.s.kept.length : Int) → lkup 9 L = some (JfI (last < e.s.no ∧ e.s.no ≤ 1073741824 ∧ 0 ≤ e.s.ack ∧ e.s.ack ≤ 1099511627776 ∧ e.s.kept.length ≤ 8)) → (∀ ids, es1.den ρ ids = ⟨[], [], [], [], []⟩) →
        (Tree.br (.cmp .lss x (.lit 0)) (.done (.lf (.bool (.lit false))) m1) (.br (.cmp .gtr y (.lit 1099511627776)) (.done (.lf (.bool (.lit false))) m2) (.br (.cmp .gtr (.nat n) (.lit 8)) (.done (.lf (.bool (.lit false))) m3) (.again 9 es1 m4)))).holds ⟨Try.prog, w, fun _ => False, PureAt w (.bool (validT t))⟩ ρ [] HX.nil L := fun hno {m1 m2 m3 m4 ρ L es1 x y n} ex ey en hL hes => by
      by_cases h3 : e.s.ack < 0
      · exact br_T (decide (e.s.ack < 0)) (by show decide (x.den ρ < 0) = _; rw [ex]) (decide_eq_true h3) (fin (hbad (fun q => by omega)))
      refine br_F (decide (e.s.ack < 0)) (by show decide (x.den ρ < 0) = _; rw [ex]) (decide_eq_false h3) ?_
      by_cases h4 : e.s.ack > 1099511627776
      · exact br_T (decide (e.s.ack > 1099511627776)) (by show decide (y.den ρ > 1099511627776) = _; rw [ey]) (decide_eq_true h4) (fin (hbad (fun q => by omega)))
      refine br_F (decide (e.s.ack > 1099511627776)) (by show decide (y.den ρ > 1099511627776) = _; rw [ey]) (decide_eq_false h4) ?_
      by_cases h5 : e.s.kept.length > 8
      · exact br_T (decide ((e.s.kept.length : Int) > 8)) (by show decide ((IE.nat n).den ρ > 8) = _; rw [en]) (decide_eq_true (by omega)) (fin (hbad (fun q => by omega)))
      refine br_F (decide ((e.s.kept.length : Int) > 8)) (by show decide ((IE.nat n).den ρ > 8) = _; rw [en]) (decide_eq_false (by omega)) ?_
      exact again_V ⟨[], [], [], [], []⟩ hL hes HX.nil (fun w2 ids hf => HXok.none _ _) ⟨by omega, rfl, rfl⟩
    by_cases hk0 : k = 0
    · refine br_F (decide ((k : Int) > 0)) (by kernel_rfl) (decide_eq_false (by omega)) ?_
      exact tail (by rcases hlast with ⟨_, h⟩ | ⟨s, h, _⟩ <;> omega) (by kernel_rfl) (by kernel_rfl) (by kernel_rfl) (by rfl) (by intros; kernel_rfl)
    · refine br_T (decide ((k : Int) > 0)) (by kernel_rfl) (decide_eq_true (by omega)) ?_
      obtain ⟨s, q1, q2, q3, q4⟩ : ∃ s, 0 < k ∧ t[k - 1]? = some s ∧ last = s.no ∧ 1 ≤ last := by
        rcases hlast with ⟨h, _⟩ | h
        · exact absurd h hk0
        · exact h
      obtain ⟨e0, he0⟩ : ∃ e0, es[k - 1]? = some e0 := ⟨_, List.getElem?_eq_getElem (by omega)⟩
      have hs0 : e0.s = s := by
        rw [et, List.getElem?_map, he0] at q2
        simpa using q2
      have hwk : IntKind.i64.wrap ((k : Int) - 1) = ((k - 1 : Nat) : Int) := by rw [wrap_i64 (by omega)]; omega
      refine need_k (a.isSome = true ∧ (0 : Int) ≤ IntKind.i64.wrap ((k : Int) - 1) ∧ IntKind.i64.wrap ((k : Int) - 1) < es.length) (by kernel_rfl) ⟨se_sm H.row he, by rw [hwk]; omega, by rw [hwk]; omega⟩ ?_
      refine node_ld0 (k := ⟨3, 0, 0, 4, 2⟩) ⟨[last], [], [], [], []⟩ (.pointer (some (((a.getD ⟨0, 0, none⟩).add ((IntKind.i64.wrap ((k : Int) - 1)).toNat * 3)).add 0))) [.int .i64 last] (by intros; kernel_rfl) (by intros; kernel_rfl) (by rw [hwk]; exact se_key (k - 1) e0 he0 (n := 0) (by rw [q3, ← hs0]; rfl) H.row) ⟨rfl, oneNil⟩ (by kernel_rfl) oneNil ?_
      by_cases h3 : e.s.no ≤ last
      · exact br_T (decide (e.s.no ≤ last)) (by kernel_rfl) (decide_eq_true h3) (fin (hbad (fun q => by omega)))
      refine br_F (decide (e.s.no ≤ last)) (by kernel_rfl) (decide_eq_false h3) ?_
      exact tail (by omega) (by kernel_rfl) (by kernel_rfl) (by kernel_rfl) (by rfl) (by intros; kernel_rfl)
  rintro vs hx' hcnt1 ⟨hc, rfl, rfl⟩
  obtain ⟨l, el⟩ : ∃ l, l = e.s.kept := ⟨_, rfl⟩
  rw [← el] at hbad hc
  refine holds_env (ρ' := ⟨[(k : Int), e.s.no, e.s.ack], [], [], [es.length, cap, l.length, e.c], [a, e.a]⟩) (by rw [el]; kernel_rfl) ?_
  refine loop_i (RwI l e.s.ack) (fun vs => l.length - (vs.i.headD 0).toNat) (fun ids w2 hp hf => ⟨HX.nil, HXok.none _ _, 0, e.s.ack, Nat.zero_le _, rfl, .inl ⟨rfl, rfl⟩, rfl, rfl⟩) ?_
  rintro vs hx' hcnt2 ⟨j, seq, hj, hv2, hseq, rfl, rfl⟩
  refine holds_env (ρ' := ⟨[(k : Int), e.s.no, e.s.ack, (j : Int)], [], [], [es.length, cap, l.length, e.c], [a, e.a]⟩) (by kernel_rfl) ?_
  by_cases hlt2 : j < l.length
  rotate_left
  · refine br_F (decide ((j : Int) < (l.length : Int))) (by kernel_rfl) (decide_eq_false (by omega)) ?_
    obtain rfl : j = l.length := by omega
    rw [List.drop_length] at hv2
    have hwk : IntKind.i64.wrap ((k : Int) + 1) = ((k + 1 : Nat) : Int) := by rw [wrap_i64 (by omega)]; omega
    refine again_V ⟨[((k + 1 : Nat) : Int)], [], [], [], []⟩ rfl (fun ids => Eq.trans (b := ⟨[IntKind.i64.wrap ((k : Int) + 1)], [], [], [], []⟩) (by kernel_rfl) (by rw [hwk])) HX.nil (fun w2 ids hf => HXok.none _ _) ⟨⟨k + 1, e.s.no, by omega, ?_, .inr ⟨e.s, by omega, by rw [Nat.add_sub_cancel]; exact hts, rfl, by omega⟩, rfl, rfl⟩, ?_⟩
    · rw [← hv]
      show _ = (decide _ && validK e.s.ack e.s.kept && validS e.s.no (t.drop (k + 1)))
      rw [← el, ← hv2, decide_eq_true hc]
      show _ = (true && true && _)
      rw [Bool.true_and, Bool.true_and]
    · show t.length - (((k + 1 : Nat) : Int)).toNat < t.length - ((k : Int)).toNat
      omega
  refine br_T (decide ((j : Int) < (l.length : Int))) (by kernel_rfl) (decide_eq_true (by omega)) ?_
  obtain ⟨p, hp⟩ : ∃ p, l[j]? = some p := ⟨_, List.getElem?_eq_getElem hlt2⟩
  have hdr2 : l.drop j = p :: l.drop (j + 1) := by
    obtain ⟨h1, h2⟩ := List.getElem?_eq_some_iff.1 hp
    rw [List.drop_eq_getElem_cons h1, h2]
  rw [hdr2] at hv2
  have hHl : Cells w e.a (kcells l) := by rw [el]; exact H.each e hem
  have hbad2 : ¬ (seq < p.seq ∧ p.seq ≤ 1099511627776 ∧ 1 ≤ p.kind ∧ p.kind ≤ 3) → validT t = false := fun h => hbad fun _ => by
    rw [← hv2]
    unfold validK
    rw [decide_eq_false h, Bool.false_and]
  have hsq : e.s.ack ≤ seq := by rcases hseq with ⟨_, h⟩ | ⟨q, _, _, _, h⟩ <;> omega
  have hwj : IntKind.i64.wrap ((j : Int) + 1) = ((j + 1 : Nat) : Int) := by rw [wrap_i64 (by omega)]; omega
  refine ⟨JfI (seq < p.seq ∧ p.seq ≤ 1099511627776 ∧ 1 ≤ p.kind ∧ p.kind ≤ 3), ?_, ?_⟩
  · refine need_k (e.a.isSome = true ∧ (0 : Int) ≤ j ∧ (j : Int) < l.length) (by kernel_rfl) ⟨kp_sm hHl hp, by omega, by omega⟩ ?_
    refine node_ld0 (k := ⟨4, 0, 0, 4, 2⟩) ⟨[p.seq, p.kind, p.re, p.im], [], [], [], []⟩ (.pointer (some (((e.a.getD ⟨0, 0, none⟩).add (j * 4)).add 0))) p.cells (by intros; kernel_rfl) (by intros; kernel_rfl) (kp_all j hp hHl) ⟨rfl, oneNil⟩ (by kernel_rfl) oneNil ?_
    by_cases g1 : p.seq ≤ e.s.ack
    · exact br_T (decide (p.seq ≤ e.s.ack)) (by kernel_rfl) (decide_eq_true g1) (fin (hbad2 (fun q => by omega)))
    refine br_F (decide (p.seq ≤ e.s.ack)) (by kernel_rfl) (decide_eq_false g1) ?_
    by_cases g2 : p.seq > 1099511627776
    · exact br_T (decide (p.seq > 1099511627776)) (by kernel_rfl) (decide_eq_true g2) (fin (hbad2 (fun q => by omega)))
    refine br_F (decide (p.seq > 1099511627776)) (by kernel_rfl) (decide_eq_false g2) ?_
    have tail : seq < p.seq → ∀ {m2 m3 m4 : Mem} {ρ : Env} {L : Stack} {es1 : Vec} {x y : IE}, x.den ρ = p.kind → y.den ρ = p.kind → lkup 15 L = some (JfI (seq < p.seq ∧ p.seq ≤ 1099511627776 ∧ 1 ≤ p.kind ∧ p.kind ≤ 3)) → (∀ ids, es1.den ρ ids = ⟨[], [], [], [], []⟩) →
        (Tree.br (.cmp .lss x (.lit 1)) (.done (.lf (.bool (.lit false))) m2) (.br (.cmp .gtr y (.lit 3)) (.done (.lf (.bool (.lit false))) m3) (.again 15 es1 m4))).holds ⟨Try.prog, w, fun _ => False, PureAt w (.bool (validT t))⟩ ρ [] HX.nil L := fun hno {m2 m3 m4 ρ L es1 x y} ex ey hL hes => by
      by_cases h3 : p.kind < 1
      · exact br_T (decide (p.kind < 1)) (by show decide (x.den ρ < 1) = _; rw [ex]) (decide_eq_true h3) (fin (hbad2 (fun q => by omega)))
      refine br_F (decide (p.kind < 1)) (by show decide (x.den ρ < 1) = _; rw [ex]) (decide_eq_false h3) ?_
      by_cases h4 : p.kind > 3
      · exact br_T (decide (p.kind > 3)) (by show decide (y.den ρ > 3) = _; rw [ey]) (decide_eq_true h4) (fin (hbad2 (fun q => by omega)))
      refine br_F (decide (p.kind > 3)) (by show decide (y.den ρ > 3) = _; rw [ey]) (decide_eq_false h4) ?_
      exact again_V ⟨[], [], [], [], []⟩ hL hes HX.nil (fun w2 ids hf => HXok.none _ _) ⟨by omega, rfl, rfl⟩
    by_cases hj0 : j = 0
    · refine br_F (decide ((j : Int) > 0)) (by kernel_rfl) (decide_eq_false (by omega)) ?_
      exact tail (by rcases hseq with ⟨_, h⟩ | ⟨s, h, _⟩ <;> omega) (by kernel_rfl) (by kernel_rfl) (by rfl) (by intros; kernel_rfl)
    · refine br_T (decide ((j : Int) > 0)) (by kernel_rfl) (decide_eq_true (by omega)) ?_
      obtain ⟨s, q1, q2, q3, q4⟩ : ∃ s, 0 < j ∧ l[j - 1]? = some s ∧ seq = s.seq ∧ e.s.ack < seq := by
        rcases hseq with ⟨h, _⟩ | h
        · exact absurd h hj0
        · exact h
      have hwk : IntKind.i64.wrap ((j : Int) - 1) = ((j - 1 : Nat) : Int) := by rw [wrap_i64 (by omega)]; omega
      refine need_k (e.a.isSome = true ∧ (0 : Int) ≤ IntKind.i64.wrap ((j : Int) - 1) ∧ IntKind.i64.wrap ((j : Int) - 1) < l.length) (by kernel_rfl) ⟨kp_sm hHl hp, by rw [hwk]; omega, by rw [hwk]; omega⟩ ?_
      refine node_ld0 (k := ⟨8, 0, 0, 4, 2⟩) ⟨[seq], [], [], [], []⟩ (.pointer (some (((e.a.getD ⟨0, 0, none⟩).add ((IntKind.i64.wrap ((j : Int) - 1)).toNat * 4)).add 0))) [.int .i64 seq] (by intros; kernel_rfl) (by intros; kernel_rfl) (by
        rw [hwk]
        exact (flat_part kp_len hHl q2 (o := 0) [.int .i64 seq] (fun z u hz => by cases z with | zero => rw [List.getElem?_cons_zero] at hz; cases hz; rw [q3]; rfl | succ z => simp at hz) (by simp)).2 _ (fun q => q)) ⟨rfl, oneNil⟩ (by kernel_rfl) oneNil ?_
      by_cases h3 : p.seq ≤ seq
      · exact br_T (decide (p.seq ≤ seq)) (by kernel_rfl) (decide_eq_true h3) (fin (hbad2 (fun q => by omega)))
      refine br_F (decide (p.seq ≤ seq)) (by kernel_rfl) (decide_eq_false h3) ?_
      exact tail (by omega) (by kernel_rfl) (by kernel_rfl) (by rfl) (by intros; kernel_rfl)
  rintro vs hx' hcnt3 ⟨hc2, rfl, rfl⟩
  refine again_V ⟨[((j + 1 : Nat) : Int)], [], [], [], []⟩ rfl (fun ids => Eq.trans (b := ⟨[IntKind.i64.wrap ((j : Int) + 1)], [], [], [], []⟩) (by kernel_rfl) (by rw [hwj])) HX.nil (fun w2 ids hf => HXok.none _ _) ⟨⟨j + 1, p.seq, by omega, ?_, .inr ⟨p, by omega, by rw [Nat.add_sub_cancel]; exact hp, rfl, by omega⟩, rfl, rfl⟩, ?_⟩
  · rw [← hv2]
    show _ = (decide _ && validK p.seq (l.drop (j + 1)))
    rw [decide_eq_true hc2, Bool.true_and]
  · show l.length - (((j + 1 : Nat) : Int)).toNat < l.length - ((j : Int)).toNat
    omega
end Go.Proofs.Ythgkgllllomeeaa
