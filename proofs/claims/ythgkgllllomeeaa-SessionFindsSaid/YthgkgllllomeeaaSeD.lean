/- Sessions: what Ask and Keep answer, as plain data; tables taken apart. -/
import Derived.Test.YthgkgllllomeeaaSeC
import Derived.Test.YthgkgllllomeeaaSeI
import Derived.Test.YthgkgllllomeeaaSeU
namespace Go.Proofs.Ythgkgllllomeeaa
open Go.ChangeShapes Go.WideShapes Go.ChangeAt Go.RowKit Go.Syn Go.Eng
set_option linter.unusedVariables false
set_option linter.unusedSimpArgs false
set_option maxRecDepth 100000
def insAt {α : Type} (l : List α) (i : Nat) (x : α) : List α := l.take i ++ x :: l.drop i
theorem insAt_len {α : Type} {l : List α} {i : Nat} (x : α) (h : i ≤ l.length) : (insAt l i x).length = l.length + 1 := by
  unfold insAt
  simp only [List.length_append, List.length_cons, List.length_take, List.length_drop]; omega
theorem insAt_get {α : Type} {l : List α} {i : Nat} (x : α) (h : i ≤ l.length) (j : Nat) : (insAt l i x)[j]? = if j < i then l[j]? else if j = i then some x else l[j - 1]? := by
  unfold insAt
  have hl : (l.take i).length = i := by rw [List.length_take]; omega
  by_cases h1 : j < i
  · rw [if_pos h1, List.getElem?_append_left (by omega), List.getElem?_take, if_pos h1]
  · rw [if_neg h1, List.getElem?_append_right (by omega), hl]
    by_cases h2 : j = i
    · rw [if_pos h2, h2, Nat.sub_self]; rfl
    · rw [if_neg h2]
      obtain ⟨d, hd⟩ : ∃ d, j - i = d + 1 := ⟨j - i - 1, by omega⟩
      rw [hd, List.getElem?_cons_succ, List.getElem?_drop]
      congr 1; omega
theorem insAt_mem {α : Type} {l : List α} {i : Nat} {x y : α} : y ∈ insAt l i x ↔ y ∈ l ∨ y = x := by
  unfold insAt
  rw [List.mem_append, List.mem_cons]
  constructor
  · rintro (h | h | h)
    · exact .inl (List.mem_of_mem_take h)
    · exact .inr h
    · exact .inl (List.mem_of_mem_drop h)
  · rintro (h | h)
    · rw [← List.take_append_drop i l, List.mem_append] at h
      exact h.elim .inl fun q => .inr (.inr q)
    · exact .inr (.inl h)
theorem insAt_map {α β : Type} (f : α → β) (l : List α) (i : Nat) (x : α) : (insAt l i x).map f = insAt (l.map f) i (f x) := by
  unfold insAt
  rw [List.map_append, List.map_cons, List.map_take, List.map_drop]
theorem insAt_flat {α : Type} {f : α → List Value} {n : Nat} (hf : ∀ x, (f x).length = n) (l : List α) (i : Nat) (x : α) : (insAt l i x).flatMap f = (l.flatMap f).take (i * n) ++ f x ++ (l.flatMap f).drop (i * n) := by
  unfold insAt
  rw [List.flatMap_append, List.flatMap_cons, flat_take hf, flat_drop hf, List.append_assoc]
def nosT (t : List SsD) : List Int := t.map SsD.no
def seqsK (l : List KpD) : List Int := l.map KpD.seq
def tabS (t : List SsD) (sess : Int) : List SsD := if hitI (nosT t) sess then t else insAt t (posI (nosT t) sess) ⟨sess, 0, []⟩
def updS (ack : Int) (s : SsD) : SsD := ⟨s.no, max s.ack ack, s.kept.filter (live (max s.ack ack))⟩
structure AskR where
  t : List SsD
  k : Int
  re : Int
  im : Int
  d : Bool
def askS (t2 : List SsD) (s : SsD) (seq : Int) : AskR :=
  if seq ≤ s.ack then ⟨t2, 4, 0, 0, true⟩ else
  if hitI (seqsK s.kept) seq then
    match s.kept[posI (seqsK s.kept) seq]? with
    | none => ⟨t2, 0, 0, 0, true⟩
    | some k => ⟨t2, k.kind, k.re, k.im, true⟩
  else if 8 ≤ s.kept.length then ⟨t2, 6, 0, 0, true⟩ else ⟨t2, 0, 0, 0, false⟩
def askV (t : List SsD) (sess seq ack : Int) : AskR :=
  if hitI (nosT t) sess = false ∧ 16 ≤ t.length then ⟨t, 5, 0, 0, true⟩ else
  match (tabS t sess)[posI (nosT t) sess]? with
  | none => ⟨t, 0, 0, 0, true⟩
  | some s => askS ((tabS t sess).set (posI (nosT t) sess) (updS ack s)) (updS ack s) seq
def keepV (t : List SsD) (sess seq k re im : Int) : List SsD :=
  if hitI (nosT t) sess = false then t else
  match t[posI (nosT t) sess]? with
  | none => t
  | some s => if hitI (seqsK s.kept) seq = true ∨ seq ≤ s.ack ∨ 8 ≤ s.kept.length then t else t.set (posI (nosT t) sess) ⟨s.no, s.ack, insAt s.kept (posI (seqsK s.kept) seq) ⟨seq, k, re, im⟩⟩
theorem pos_le (ks : List Int) (t : Int) : posI ks t ≤ ks.length := (List.takeWhile_sublist _).length_le
theorem hit_iff {ks : List Int} {t : Int} : hitI ks t = true ↔ ks[posI ks t]? = some t := by unfold hitI; exact decide_eq_true_iff
theorem rise_pw {ks : List Int} : Rise ks ↔ ks.Pairwise (· < ·) := by
  rw [List.pairwise_iff_getElem]
  constructor
  · intro h i j hi hj hij
    exact h i j _ _ hij (List.getElem?_eq_getElem hi) (List.getElem?_eq_getElem hj)
  · intro h i j x y hij hx hy
    obtain ⟨hi, rfl⟩ := List.getElem?_eq_some_iff.1 hx
    obtain ⟨hj, rfl⟩ := List.getElem?_eq_some_iff.1 hy
    exact h i j hi hj hij
theorem rise_filter {l : List KpD} (h : Rise (seqsK l)) (p : KpD → Bool) : Rise (seqsK (l.filter p)) := by
  rw [rise_pw] at h ⊢
  unfold seqsK at h ⊢
  rw [List.pairwise_map] at h ⊢
  exact h.filter p
theorem tabS_at (t : List SsD) (sess : Int) : ∃ s, (tabS t sess)[posI (nosT t) sess]? = some s ∧ s.no = sess ∧ (hitI (nosT t) sess = true → t[posI (nosT t) sess]? = some s) ∧ (hitI (nosT t) sess = false → s = ⟨sess, 0, []⟩) := by
  have hle : posI (nosT t) sess ≤ t.length := by
    have := pos_le (nosT t) sess
    unfold nosT at this ⊢
    rwa [List.length_map] at this
  unfold tabS
  by_cases h : hitI (nosT t) sess = true
  · rw [if_pos h]
    have h2 := hit_iff.1 h
    have h3 : (t.map SsD.no)[posI (nosT t) sess]? = some sess := h2
    rw [List.getElem?_map] at h3
    cases h4 : t[posI (nosT t) sess]? with
    | none => rw [h4] at h3; cases h3
    | some s =>
      rw [h4] at h3
      simp only [Option.map_some, Option.some.injEq] at h3
      exact ⟨s, rfl, h3, fun _ => rfl, fun q => by rw [h] at q; cases q⟩
  · rw [if_neg h]
    refine ⟨⟨sess, 0, []⟩, ?_, rfl, fun q => absurd q h, fun _ => rfl⟩
    rw [insAt_get _ hle, if_neg (Nat.lt_irrefl _), if_pos rfl]
/-! ### Tables taken apart -/
theorem erase_mem {α : Type} {l : List α} {i : Nat} {x : α} (h : x ∈ l.eraseIdx i) : ∃ j, j ≠ i ∧ l[j]? = some x := by
  obtain ⟨j, hj⟩ := List.mem_iff_getElem?.1 h
  rw [List.getElem?_eraseIdx] at hj
  split at hj
  · exact ⟨j, by omega, hj⟩
  · exact ⟨j + 1, by omega, hj⟩
theorem Dj.one {a : Option Addr} {c : Nat} {es : List SE} {i : Nat} {e : SE} (h : Dj a c es) (he : es[i]? = some e) : ∀ k, (kRow e).F k → ¬ (ksR (es.eraseIdx i)).F k ∧ ¬ (tRow a c es).F k := fun k hk => ⟨by
  rintro ⟨x, hx, hq⟩
  obtain ⟨j, hj, hxj⟩ := erase_mem hx
  exact h.two i j e x (fun q => hj q.symm) he hxj k hk hq, h.tab e (List.mem_of_getElem? he) k hk⟩
theorem Dj.row {a : Option Addr} {c : Nat} {es : List SE} (h : Dj a c es) : ∀ k, (tRow a c es).F k → ¬ (ksR es).F k := by
  rintro k hk ⟨x, hx, hq⟩
  exact h.tab x hx k hq hk
theorem set_erase {α : Type} (l : List α) (i : Nat) (x : α) : (l.set i x).eraseIdx i = l.eraseIdx i := List.eraseIdx_set_eq ..
theorem Dj.set {a : Option Addr} {c : Nat} {es : List SE} {i : Nat} {e e' : SE} (h : Dj a c es) (he : es[i]? = some e) (h1 : ∀ k, (kRow e').F k → ¬ (ksR (es.eraseIdx i)).F k ∧ ¬ (tRow a c es).F k) : Dj a c (es.set i e') := by
  have hi : i < es.length := (List.getElem?_eq_some_iff.1 he).1
  have old : ∀ {j : Nat} {x : SE}, j ≠ i → (es.set i e')[j]? = some x → es[j]? = some x := fun hj hx => by rwa [List.getElem?_set_ne (fun q => hj q.symm)] at hx
  have new : ∀ {x : SE}, (es.set i e')[i]? = some x → x = e' := fun hx => by
    rw [List.getElem?_set_self hi] at hx; cases hx; rfl
  have inE : ∀ {j : Nat} {x : SE}, j ≠ i → es[j]? = some x → x ∈ es.eraseIdx i := fun {j x} hj hx => by
    refine List.mem_iff_getElem?.2 ?_
    rcases Nat.lt_or_ge j i with q | q
    · exact ⟨j, by rw [List.getElem?_eraseIdx, if_pos q]; exact hx⟩
    · exact ⟨j - 1, by rw [List.getElem?_eraseIdx, if_neg (by omega), show j - 1 + 1 = j by omega]; exact hx⟩
  refine ⟨fun x y p q hxy hp hq k hk1 hk2 => ?_, fun x hx k hk => ?_⟩
  · by_cases hx : x = i
    · subst hx
      have := new hp; subst this
      have hy : y ≠ x := fun z => hxy z.symm
      exact (h1 k hk1).1 ⟨q, inE hy (old hy hq), hk2⟩
    · have hp2 := old hx hp
      by_cases hy : y = i
      · subst hy
        have := new hq; subst this
        exact (h1 k hk2).1 ⟨p, inE hx hp2, hk1⟩
      · exact h.two x y p q hxy hp2 (old hy hq) k hk1 hk2
  · rcases List.mem_or_eq_of_mem_set hx with hx | hx
    · exact h.tab x hx k hk
    · subst hx; exact (h1 k hk).2
theorem ksR_set {es : List SE} {i : Nat} {e e' : SE} (he : es[i]? = some e) : ksR (es.set i e') = (ksR (es.eraseIdx i)).and (kRow e') := by
  have hi : i < es.length := (List.getElem?_eq_some_iff.1 he).1
  rw [ksR_split (List.getElem?_set_self hi), set_erase]
def seNew (sess : Int) : SE := ⟨⟨sess, 0, []⟩, none, 0⟩
theorem kRow_new (sess : Int) : (∀ k, ¬ (kRow (seNew sess)).F k) ∧ ∀ w, (kRow (seNew sess)).X w := ⟨fun k h => h.1 rfl, fun w => HX.rw_nil _ _ _ _⟩
theorem ksR_ins (es : List SE) (i : Nat) (sess : Int) : ksR (insAt es i (seNew sess)) = ksR es := HX.ext (by
    funext k
    refine propext ⟨?_, ?_⟩
    · rintro ⟨x, hx, hk⟩
      rcases insAt_mem.1 hx with hx | hx
      · exact ⟨x, hx, hk⟩
      · rw [hx] at hk; exact absurd hk ((kRow_new sess).1 k)
    · rintro ⟨x, hx, hk⟩
      exact ⟨x, insAt_mem.2 (.inl hx), hk⟩) (by
    funext w
    refine propext ⟨fun h x hx => h x (insAt_mem.2 (.inl hx)), fun h x hx => ?_⟩
    rcases insAt_mem.1 hx with hx | hx
    · exact h x hx
    · rw [hx]; exact (kRow_new sess).2 w)
theorem Dj.ins {a a' : Option Addr} {c c' : Nat} {es : List SE} {i : Nat} {sess : Int} (h : Dj a c es) (hi : i ≤ es.length) (h1 : ∀ k, c' ≠ 0 → abk a' = some k → ¬ (ksR es).F k) : Dj a' c' (insAt es i (seNew sess)) := by
  have key : ∀ {j : Nat} {x : SE} {k : Nat}, (insAt es i (seNew sess))[j]? = some x → (kRow x).F k → j ≠ i ∧ es[if j < i then j else j - 1]? = some x := fun {j x k} hx hk => by
    rw [insAt_get _ hi] at hx
    split at hx
    · rename_i q; rw [if_pos q]; exact ⟨by omega, hx⟩
    · rename_i q
      split at hx
      · cases hx; exact absurd hk ((kRow_new sess).1 k)
      · rename_i q2; rw [if_neg q]; exact ⟨q2, hx⟩
  refine ⟨fun x y p q hxy hp hq k hk1 hk2 => ?_, fun x hx k hk hF => ?_⟩
  · obtain ⟨n1, e1⟩ := key hp hk1
    obtain ⟨n2, e2⟩ := key hq hk2
    refine h.two _ _ p q ?_ e1 e2 k hk1 hk2
    split <;> split <;> omega
  · rcases insAt_mem.1 hx with hx | hx
    · exact h1 k hF.1 hF.2 ⟨x, hx, hk⟩
    · rw [hx] at hk; exact (kRow_new sess).1 k hk
section
variable {C : Cfg} {ρ : Env} {pre : List Nat} {rest hx : HX} {L : Stack} {m m' : Mem} {args : List SV} {r : SV} {t : Tree}
theorem par_same (h : t.holds C ρ pre hx L) : (Tree.par t t).holds C ρ pre hx L := ⟨h, h⟩
theorem node_del {f bn : Nat} {a : Option Addr} {cap n : Nat} {xs : List Value} {pc : Value} {cs : List LV} (l : List KpD) (AS : List Nat → Array Value) (hargs : ∀ ids, (args.map (SV.den ρ ids)).toArray = AS ids) (hn : m.hp[bn]? = some (57, cs)) (hcs : ∀ ids, cellsDen (ρ.add ⟨[], [], [], [l.length, cap], [a]⟩) ids cs = [pc])
    (hcall : ∀ ids w, pre <+: ids → Facts C m ρ ids (rest.and (HX.rw 4 48 a n cap xs)) w → Calls C.P f (AS ids) w (DelR w a cap (idAt ids bn) pc l))
    (hdis : ∀ q, cap ≠ 0 → abk a = some q → ¬ rest.F q) (hM : ∀ q, cap ≠ 0 → abk a = some q → C.W.heap.size ≤ q ∨ C.M q)
    (hr : ∀ ids, r.den (ρ.add ⟨[], [], [], [l.length, cap], [a]⟩) ids = .slice a l.length cap) (hhp : m'.hp = m.hp.set bn (57, cs)) (hfit : hpFits m.c m.hp.length m.hp = true) (hc : (ρ.add ⟨[], [], [], [l.length, cap], [a]⟩).cnt = m'.c)
    (h : t.holds C (ρ.add ⟨[], [], [], [l.length, cap], [a]⟩) pre (rest.and (HX.rw 4 48 a l.length cap (kcells l))) L) : (Tree.call f args m r m' t).holds C ρ pre (rest.and (HX.rw 4 48 a n cap xs)) L := by
  intro ids w hp hf
  rw [hargs]
  refine (hcall ids w hp hf).mono ?_
  rintro e2 w' ⟨rfl, hX, hb, hch⟩
  have hlt : bn < ids.length := by
    rw [hf.len]
    rcases Nat.lt_or_ge bn m.hp.length with q | q
    · exact q
    · rw [List.getElem?_eq_none q] at hn; cases hn
  have hb2 : w'.heap[idAt ids bn]? = some (.cells (cellsDen (ρ.add ⟨[], [], [], [l.length, cap], [a]⟩) ids cs).toArray 57 (0, 0)) := by rw [hcs]; exact hb
  refine ⟨_, ids, _, by rw [← hr ids], List.prefix_refl _, hf.act (hx' := rest.and (HX.rw 4 48 a l.length cap (kcells l))) hch (fun b q => q.imp id fun q => ⟨.inr q, hM b q.1 q.2⟩) hn hb2 ⟨rest.loc w w' hf.x.1 fun k hk => hch.block k (hf.sep k (.inl hk)).1 (fun q => ?_), hX⟩ (fun k hk => .inl hk) hhp hfit hc oneNil, holds_pre t hp h⟩
  rcases q with q | q
  · exact (hf.sep k (.inl hk)).2 (q ▸ idAt_mem hlt)
  · exact hdis k q.1 q.2 hk
end
end Go.Proofs.Ythgkgllllomeeaa
