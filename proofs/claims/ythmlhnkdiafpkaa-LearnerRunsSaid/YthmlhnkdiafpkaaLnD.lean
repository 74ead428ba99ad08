/- forget, Trim, Jump, Missing. -/
import Derived.Test.YthmlhnkdiafpkaaLnC
namespace Go.Proofs.Ythmlhnkdiafpkaa
open Go.ChangeShapes Go.WideShapes Go.ChangeAt Go.RowKit Go.Syn Go.Eng Go.MapKept
set_option linter.unusedVariables false
set_option linter.unusedSimpArgs false
set_option maxRecDepth 100000
theorem mdel_le {α : Type} (m : List (Int × α)) (k : Int) : (mdel m k).length ≤ m.length := List.length_filter_le _ _
theorem mdel_lt {α : Type} {m : List (Int × α)} {p : Int × α} (h : p ∈ m) : (mdel m p.1).length < m.length := by
  unfold mdel
  refine Nat.lt_of_le_of_ne (List.length_filter_le _ _) fun e => ?_
  have := List.length_filter_eq_length_iff.1 e p h
  simp at this
theorem above_del {α : Type} {m : List (Int × α)} {k slot : Int} (h : k ≤ slot) : above (mdel m k) slot = above m slot := by
  unfold above mdel
  rw [List.filter_filter]
  refine List.filter_congr fun p _ => ?_
  by_cases q : slot < p.1
  · have : p.1 ≠ k := by omega
    simp [q, this]
  · simp [q]
theorem above_map {α β : Type} (f : α → β) (m : List (Int × α)) (s : Int) : above (mmap f m) s = mmap f (above m s) := by
  unfold above mmap
  rw [List.filter_map]; rfl
def ForI {α : Type} (i b : Nat) (ds : List (Int × α)) (slot : Int) (f : α → Value) (vs : Vals) (hx : HX) (n : Nat) : Prop := vs = Vals.nil ∧ ∃ (ds1 ls : List (Int × α)) (last : Option (Int × Value)), n = ls.length ∧ above ds1 slot = above ds slot ∧ (∀ p ∈ ds1, p ∈ ds) ∧ (∀ p ∈ ds1, p ∈ ls ∨ slot < p.1) ∧ (∀ p ∈ ls, p ∈ ds1) ∧ hx = HX.nil.and (HX.rng i b (mmap f ds1) (mmap f ls) last)
theorem forD_any (b : Nat) (ds : List (Int × Pv)) (slot : Int) (w : World) (H : VMap w b (mmap Pv.val ds)) : Calls Try.prog 41 #[.map (some b), .int .i64 slot] w (fun e w' => e = .returned (.tuple #[]) ∧ VMap w' b (mmap Pv.val (above ds slot)) ∧ Chg (fun k => k = b) w w') := by
  refine calls_at (tab_ok _) Try.func41 rfl tLForD (ρ := ⟨[slot], [], [.map (some b)], [], []⟩) (ids := []) (hx := HX.nil.and (HX.vmap b (mmap Pv.val ds))) rfl (Facts.initm (M := fun k => k = b) rfl (fun v hv => by simp only [List.mem_singleton] at hv; subst hv; rfl) ⟨trivial, H⟩ (fun k hk => hk.elim False.elim (fun q => by rw [show k = b from q]; exact H.lt))) ?_
  refine node_vrange (mt := 75) (kt := 3) (et := 32) b (mmap Pv.val ds) (by intros; kernel_rfl) Try.underlying75 (by intros; kernel_rfl) (by kernel_rfl) (by kernel_rfl) (by intros; kernel_rfl) ?_
  intro i hi hi2
  refine ⟨ForI i b ds slot Pv.val, fun ids w2 hp hf => ⟨_, (mmap Pv.val ds).length, ⟨hf.x, hf.sep⟩, rfl, ds, ds, none, by unfold mmap; rw [List.length_map], rfl, fun p hp => hp, fun p hp => .inl hp, fun p hp => hp, rfl⟩, ?_⟩
  rintro vs hx' n hcnt ⟨rfl, ds1, ls, last, rfl, hab, hsub, hor, hls, rfl⟩
  refine holds_env (ρ' := ⟨[slot], [], [.map (some b), .pointer (some ⟨i, 0, none⟩)], [], []⟩) rfl ?_
  refine node_vnext i b (mmap Pv.val ds1) (mmap Pv.val ls) last hi id (by intros; kernel_rfl) (by kernel_rfl) (by kernel_rfl) (fun h0 => ?_) (fun k v h1 h2 => ?_)
  · refine ⟨⟨[0, 0], [false], [], [0, 0, 0, 0], [none, none]⟩, (by intros; kernel_rfl), by kernel_rfl, oneNil, br_F false (by kernel_rfl) rfl fun ids w2 hp hf => ⟨rfl, ?_, hf.chg⟩⟩
    have h0 : ls = [] := by unfold mmap at h0; exact List.map_eq_nil_iff.1 h0
    have e : above ds1 slot = ds1 := List.filter_eq_self.2 fun p hp => decide_eq_true ((hor p hp).elim (fun q => by rw [h0] at q; cases q) id)
    rw [← hab, e]
    exact (show Rg w2 i b _ _ _ from hf.x.2).map
  · obtain ⟨⟨k2, p⟩, hp1, hp2⟩ := List.mem_map.1 h1
    obtain ⟨rfl, rfl⟩ := Prod.mk.inj hp2
    refine ⟨⟨[k2, p.v.k], [true], [], [p.v.cs.length, p.c1, p.v.ns.length, p.c2], [p.a1, p.a2]⟩, (by intros; kernel_rfl), by kernel_rfl, oneNil, br_T true (by kernel_rfl) rfl ?_⟩
    refine node_ventry ⟨[k2, p.v.k], [], [], [p.v.cs.length, p.c1, p.v.ns.length, p.c2], [p.a1, p.a2]⟩ i b _ _ k2 p.val (by intros; kernel_rfl) (by intros; kernel_rfl) (by kernel_rfl) (by kernel_rfl) (by kernel_rfl) oneNil ?_
    refine br_D (p := k2 ≤ slot) (by kernel_rfl) (fun h => ?_) (fun h => ?_)
    · refine node_vdelr (mt := 75) (kt := 3) (et := 32) rfl i b _ _ _ k2 rfl (.inr rfl) id (by intros; kernel_rfl) (by intros; kernel_rfl) Try.underlying75 Try.underlying3 (by intros; kernel_rfl) (by kernel_rfl) (by kernel_rfl) (by kernel_rfl) ?_
      refine again_V Vals.nil rfl (by intros; kernel_rfl) _ (fun w2 ids hf => ⟨hf.x, hf.sep⟩) ⟨(mdel (mdel ls k2) k2).length, ?_, rfl, mdel ds1 k2, mdel (mdel ls k2) k2, none, rfl, ?_, fun q hq => hsub q (mdel_in.1 hq).1, fun q hq => ?_, fun q hq => ?_, ?_⟩
      · exact Nat.lt_of_le_of_lt (mdel_le _ _) (mdel_lt hp1)
      · rw [← hab]; exact above_del h
      · obtain ⟨q1, q2⟩ := mdel_in.1 hq
        exact (hor q q1).imp (fun r => mdel_in.2 ⟨mdel_in.2 ⟨r, q2⟩, q2⟩) id
      · obtain ⟨q1, q2⟩ := mdel_in.1 hq
        exact mdel_in.2 ⟨hls q (mdel_in.1 q1).1, q2⟩
      · rw [vdel_is, vdel_is, vdel_is, mdel_map, mdel_map, mdel_map]
    · refine again_V Vals.nil rfl (by intros; kernel_rfl) _ (fun w2 ids hf => ⟨hf.x, hf.sep⟩) ⟨(mdel ls k2).length, mdel_lt hp1, rfl, ds1, mdel ls k2, some (k2, p.val), rfl, hab, hsub, fun q hq => ?_, fun q hq => hls q (mdel_in.1 hq).1, ?_⟩
      · by_cases e : q.1 = k2
        · exact .inr (by rw [e]; omega)
        · exact (hor q hq).imp (fun r => mdel_in.2 ⟨r, e⟩) id
      · rw [vdel_is, mdel_map]
theorem forV_any (b : Nat) (ds : List (Int × InM)) (slot : Int) (w : World) (H : VMap w b (mmap InM.val ds)) : Calls Try.prog 42 #[.map (some b), .int .i64 slot] w (fun e w' => e = .returned (.tuple #[]) ∧ VMap w' b (mmap InM.val (above ds slot)) ∧ Chg (fun k => k = b) w w') := by
  refine calls_at (tab_ok _) Try.func42 rfl tLForV (ρ := ⟨[slot], [], [.map (some b)], [], []⟩) (ids := []) (hx := HX.nil.and (HX.vmap b (mmap InM.val ds))) rfl (Facts.initm (M := fun k => k = b) rfl (fun v hv => by simp only [List.mem_singleton] at hv; subst hv; rfl) ⟨trivial, H⟩ (fun k hk => hk.elim False.elim (fun q => by rw [show k = b from q]; exact H.lt))) ?_
  refine node_vrange (mt := 74) (kt := 3) (et := 80) b (mmap InM.val ds) (by intros; kernel_rfl) Try.underlying74 (by intros; kernel_rfl) (by kernel_rfl) (by kernel_rfl) (by intros; kernel_rfl) ?_
  intro i hi hi2
  refine ⟨ForI i b ds slot InM.val, fun ids w2 hp hf => ⟨_, (mmap InM.val ds).length, ⟨hf.x, hf.sep⟩, rfl, ds, ds, none, by unfold mmap; rw [List.length_map], rfl, fun p hp => hp, fun p hp => .inl hp, fun p hp => hp, rfl⟩, ?_⟩
  rintro vs hx' n hcnt ⟨rfl, ds1, ls, last, rfl, hab, hsub, hor, hls, rfl⟩
  refine holds_env (ρ' := ⟨[slot], [], [.map (some b), .pointer (some ⟨i, 0, none⟩)], [], []⟩) rfl ?_
  refine node_vnext i b (mmap InM.val ds1) (mmap InM.val ls) last hi id (by intros; kernel_rfl) (by kernel_rfl) (by kernel_rfl) (fun h0 => ?_) (fun k v h1 h2 => ?_)
  · refine ⟨⟨[0], [false], [.bool false], [], []⟩, (by intros; kernel_rfl), by kernel_rfl, (fun v hv => by simp only [List.mem_singleton] at hv; subst hv; rfl), br_F false (by kernel_rfl) rfl fun ids w2 hp hf => ⟨rfl, ?_, hf.chg⟩⟩
    have h0 : ls = [] := by unfold mmap at h0; exact List.map_eq_nil_iff.1 h0
    have e : above ds1 slot = ds1 := List.filter_eq_self.2 fun p hp => decide_eq_true ((hor p hp).elim (fun q => by rw [h0] at q; cases q) id)
    rw [← hab, e]
    exact (show Rg w2 i b _ _ _ from hf.x.2).map
  · obtain ⟨⟨k2, p⟩, hp1, hp2⟩ := List.mem_map.1 h1
    obtain ⟨rfl, rfl⟩ := Prod.mk.inj hp2
    refine ⟨⟨[k2], [true], [p.val], [], []⟩, (by intros; kernel_rfl), by kernel_rfl, (fun v hv => by simp only [List.mem_singleton] at hv; subst hv; rfl), br_T true (by kernel_rfl) rfl ?_⟩
    refine node_ventry ⟨[k2], [], [p.val], [], []⟩ i b _ _ k2 p.val (by intros; kernel_rfl) (by intros; kernel_rfl) (by kernel_rfl) (by kernel_rfl) (by kernel_rfl) (fun v hv => by simp only [List.mem_singleton] at hv; subst hv; rfl) ?_
    refine br_D (p := k2 ≤ slot) (by kernel_rfl) (fun h => ?_) (fun h => ?_)
    · refine node_vdelr (mt := 74) (kt := 3) (et := 80) rfl i b _ _ _ k2 rfl (.inr rfl) id (by intros; kernel_rfl) (by intros; kernel_rfl) Try.underlying74 Try.underlying3 (by intros; kernel_rfl) (by kernel_rfl) (by kernel_rfl) (by kernel_rfl) ?_
      refine again_V Vals.nil rfl (by intros; kernel_rfl) _ (fun w2 ids hf => ⟨hf.x, hf.sep⟩) ⟨(mdel (mdel ls k2) k2).length, ?_, rfl, mdel ds1 k2, mdel (mdel ls k2) k2, none, rfl, ?_, fun q hq => hsub q (mdel_in.1 hq).1, fun q hq => ?_, fun q hq => ?_, ?_⟩
      · exact Nat.lt_of_le_of_lt (mdel_le _ _) (mdel_lt hp1)
      · rw [← hab]; exact above_del h
      · obtain ⟨q1, q2⟩ := mdel_in.1 hq
        exact (hor q q1).imp (fun r => mdel_in.2 ⟨mdel_in.2 ⟨r, q2⟩, q2⟩) id
      · obtain ⟨q1, q2⟩ := mdel_in.1 hq
        exact mdel_in.2 ⟨hls q (mdel_in.1 q1).1, q2⟩
      · rw [vdel_is, vdel_is, vdel_is, mdel_map, mdel_map, mdel_map]
    · refine again_V Vals.nil rfl (by intros; kernel_rfl) _ (fun w2 ids hf => ⟨hf.x, hf.sep⟩) ⟨(mdel ls k2).length, mdel_lt hp1, rfl, ds1, mdel ls k2, some (k2, p.val), rfl, hab, hsub, fun q hq => ?_, fun q hq => hls q (mdel_in.1 hq).1, ?_⟩
      · by_cases e : q.1 = k2
        · exact .inr (by rw [e]; omega)
        · exact (hor q hq).imp (fun r => mdel_in.2 ⟨r, e⟩) id
      · rw [vdel_is, mdel_map]
section
variable {L : Ln} {D : LD} {nb : Nat} {w w' : World} {slot : Int}
def LD.cutd (D : LD) (s : Int) : LD := { D with ds := above D.ds s }
def LD.cutv (D : LD) (s : Int) : LD := { D with vs := above D.vs s }
theorem LOk.cutd (h : LOk L D) (s : Int) : LOk { L with de := above L.de s } (D.cutd s) :=
  ⟨by show above L.de s = mmap _ (above D.ds s); rw [← above_map, h.de], h.vo, h.gm, fun q hq => h.gd q (above_in.1 hq).1, h.gv, h.ne, h.nv, h.nn, h.ng⟩
theorem LOk.cutv (h : LOk L D) (s : Int) : LOk { L with vo := above L.vo s } (D.cutv s) :=
  ⟨h.de, by show above L.vo s = mmap _ (above D.vs s); rw [← above_map, h.vo], h.gm, h.gd, fun q hq => h.gv q (above_in.1 hq).1, h.ne, fun q hq => h.nv q (above_in.1 hq).1, (List.Sublist.map _ List.filter_sublist).nodup h.nn, fun x hx k hk => ⟨(h.ng x hx k hk).1, (h.ng x hx k hk).2.1, fun q hq => (h.ng x hx k hk).2.2 q (above_in.1 hq).1⟩⟩
theorem LD.At.cutd (h : D.At w) (hok : LOk L D) (s : Int) (hV : VMap w' D.bd (mmap Pv.val (above D.ds s))) (hs : ∀ q, D.F q → q ≠ D.bd → w'.heap[q]? = w.heap[q]?) : (D.cutd s).At w' :=
  ⟨hV, h.v.loc (hs _ (.inl rfl) hok.ne), fun q hq => (h.i q hq).loc (hs _ (.inr (.inr (.inl ⟨q, hq, rfl⟩))) (hok.nv q hq).2), fun x hx => x.loc w w' (h.g x hx) fun k hk => hs k (.inr (.inr (.inr ⟨x, hx, hk⟩))) (hok.ng x hx k hk).2.1⟩
theorem LD.At.cutv (h : D.At w) (hok : LOk L D) (s : Int) (hV : VMap w' D.bv (mmap InM.val (above D.vs s))) (hs : ∀ q, D.F q → q ≠ D.bv → w'.heap[q]? = w.heap[q]?) : (D.cutv s).At w' :=
  ⟨h.d.loc (hs _ (.inr (.inl rfl)) (Ne.symm hok.ne)), hV, fun q hq => (h.i q (above_in.1 hq).1).loc (hs _ (.inr (.inr (.inl ⟨q, (above_in.1 hq).1, rfl⟩))) (hok.nv q (above_in.1 hq).1).1), fun x hx => x.loc w w' (h.g x hx) fun k hk => hs k (.inr (.inr (.inr ⟨x, hx, hk⟩))) (hok.ng x hx k hk).1⟩
theorem cutv_F {s : Int} {k : Nat} (h : (D.cutv s).F k) : D.F k := by
  rcases h with h | h | ⟨q, hq, e⟩ | h
  · exact .inl h
  · exact .inr (.inl h)
  · exact .inr (.inr (.inl ⟨q, (above_in.1 hq).1, e⟩))
  · exact .inr (.inr (.inr h))
section
variable {W : World} {M : Nat → Prop} {RR : Ending → World → Prop} {ρ : Env} {pre : List Nat} {rest : HX} {S : Stack} {m m' : Mem} {args : List SV} {r : SV} {t : Tree}
theorem node_forD (s : Int) (hok : LOk L D) (hargs : ∀ ids, (args.map (SV.den ρ ids)).toArray = #[.map (some D.bd), .int .i64 s]) (hr : ∀ ids, r.den (ρ.add Vals.nil) ids = .tuple #[]) (hhp : m'.hp = m.hp) (hfit : hpFits m.c m.hp.length m.hp = true) (hc : (ρ.add Vals.nil).cnt = m'.c) (hdis : ∀ k, D.F k → ¬ rest.F k ∧ (W.heap.size ≤ k ∨ M k))
    (h : t.holds ⟨Try.prog, W, M, RR⟩ (ρ.add Vals.nil) pre (rest.and (D.cutd s).X) S) : (Tree.call 41 args m r m' t).holds ⟨Try.prog, W, M, RR⟩ ρ pre (rest.and D.X) S := by
  refine node_mut (fun _ => #[.map (some D.bd), .int .i64 s]) (fun vs h' => vs = Vals.nil ∧ h' = (D.cutd s).X) hargs (fun ids w hp hf => ?_) hdis hhp hfit (fun vs h' q => by rw [q.1]; exact ⟨hc, oneNil⟩) (by rintro vs h' ⟨rfl, rfl⟩ _; exact h)
  refine (forD_any D.bd D.ds s w hf.x.2.d).mono ?_
  rintro e w' ⟨rfl, q1, q2⟩
  exact ⟨_, _, ⟨rfl, rfl⟩, by rw [hr], hf.x.2.cutd hok s q1 fun k hk hne => q2.block k (hf.sep k (.inr hk)).1 hne, fun k hk => ⟨.inl hk, Nat.lt_of_lt_of_le (hf.sep k (.inr hk)).1 q2.size⟩, ⟨q2.os, q2.tape, q2.output, q2.size, fun k hk hn => q2.block k hk fun e => hn (e ▸ .inr (.inl rfl))⟩⟩
theorem node_forV (s : Int) (hok : LOk L D) (hargs : ∀ ids, (args.map (SV.den ρ ids)).toArray = #[.map (some D.bv), .int .i64 s]) (hr : ∀ ids, r.den (ρ.add Vals.nil) ids = .tuple #[]) (hhp : m'.hp = m.hp) (hfit : hpFits m.c m.hp.length m.hp = true) (hc : (ρ.add Vals.nil).cnt = m'.c) (hdis : ∀ k, D.F k → ¬ rest.F k ∧ (W.heap.size ≤ k ∨ M k))
    (h : t.holds ⟨Try.prog, W, M, RR⟩ (ρ.add Vals.nil) pre (rest.and (D.cutv s).X) S) : (Tree.call 42 args m r m' t).holds ⟨Try.prog, W, M, RR⟩ ρ pre (rest.and D.X) S := by
  refine node_mut (fun _ => #[.map (some D.bv), .int .i64 s]) (fun vs h' => vs = Vals.nil ∧ h' = (D.cutv s).X) hargs (fun ids w hp hf => ?_) hdis hhp hfit (fun vs h' q => by rw [q.1]; exact ⟨hc, oneNil⟩) (by rintro vs h' ⟨rfl, rfl⟩ _; exact h)
  refine (forV_any D.bv D.vs s w hf.x.2.v).mono ?_
  rintro e w' ⟨rfl, q1, q2⟩
  exact ⟨_, _, ⟨rfl, rfl⟩, by rw [hr], hf.x.2.cutv hok s q1 fun k hk hne => q2.block k (hf.sep k (.inr hk)).1 hne, fun k hk => ⟨.inl (cutv_F hk), Nat.lt_of_lt_of_le (hf.sep k (.inr (cutv_F hk))).1 q2.size⟩, ⟨q2.os, q2.tape, q2.output, q2.size, fun k hk hn => q2.block k hk fun e => hn (e ▸ .inl rfl)⟩⟩
end
theorem trim_any (F : Nat → Prop) (slot : Int) (H0 : (HX.obj F (LnO nb L)).X w) (hF : ∀ k, F k → k < w.heap.size) (hinv : LnInv L) :
    Calls Try.prog 28 #[.pointer (some ⟨nb, 0, none⟩), .int .i64 slot] w (LnMut w F nb (L.trim slot) (.tuple #[])) := by
  obtain ⟨D, hok, hnb, hB, hX, Fnb, hsub⟩ := obj_open H0
  refine calls_at (tab_ok _) Try.func28 rfl tLTrim (ρ := ⟨[L.next, L.top, slot], [], [.map (some D.bv), .map (some D.bd)], [L.mem.length, D.cm], [D.am]⟩) (ids := [nb]) (hx := HX.nil.and D.X) rfl (Facts.initx (M := F) rfl (fun v hv => by simp only [List.mem_cons, List.not_mem_nil, or_false] at hv; rcases hv with rfl | rfl <;> rfl) hB rfl Fnb ⟨trivial, hX⟩ (fun k hk => hk.elim False.elim fun hk => ⟨hF k (hsub k hk), fun e => hnb (e ▸ hk)⟩)) ?_
  have n1 := hinv.next1
  have n2 := hinv.next2
  have e1 : IntKind.i64.wrap (L.next - 1) = L.next - 1 := wrap_i64 (by omega)
  refine node_forD (min slot (L.next - 1)) hok (fun ids => by rw [← e1]; kernel_rfl) (by intros; kernel_rfl) (by kernel_rfl) (by kernel_rfl) (by kernel_rfl) (fun k hk => ⟨id, .inr (hsub k hk)⟩) ?_
  exact ln_done (L' := L.trim slot) (hok.cutd _) (fun w h => h.2) (fun k hk => .inr hk) (fun k hk => .inl (hsub k hk)) Fnb (by intros; kernel_rfl) (by intros; kernel_rfl)
theorem jump_any (F : Nat → Prop) (slot : Int) (H0 : (HX.obj F (LnO nb L)).X w) (hF : ∀ k, F k → k < w.heap.size) (hinv : LnInv L) :
    Calls Try.prog 24 #[.pointer (some ⟨nb, 0, none⟩), .int .i64 slot] w (LnMut w F nb (L.jump slot).1 (.bool (L.jump slot).2)) := by
  obtain ⟨D, hok, hnb, hB, hX, Fnb, hsub⟩ := obj_open H0
  refine calls_at (tab_ok _) Try.func24 rfl tLJump (ρ := ⟨[L.next, L.top, slot], [], [.map (some D.bv), .map (some D.bd)], [L.mem.length, D.cm], [D.am]⟩) (ids := [nb]) (hx := HX.nil.and D.X) rfl (Facts.initx (M := F) rfl (fun v hv => by simp only [List.mem_cons, List.not_mem_nil, or_false] at hv; rcases hv with rfl | rfl <;> rfl) hB rfl Fnb ⟨trivial, hX⟩ (fun k hk => hk.elim False.elim fun hk => ⟨hF k (hsub k hk), fun e => hnb (e ▸ hk)⟩)) ?_
  have n1 := hinv.next1
  refine br_D (p := slot ≤ L.next) (by kernel_rfl) (fun h => ?_) (fun h1 => ?_)
  · have e : L.jump slot = (L, false) := by unfold Ln.jump; rw [if_pos (.inl h)]
    rw [e]
    exact ln_done hok (fun w h => h.2) (fun k hk => .inr hk) (fun k hk => .inl (hsub k hk)) Fnb (by intros; kernel_rfl) (by intros; kernel_rfl)
  refine br_D (p := slot > 1099511627776) (by kernel_rfl) (fun h => ?_) (fun h2 => ?_)
  · have e : L.jump slot = (L, false) := by unfold Ln.jump; rw [if_pos (.inr h)]
    rw [e]
    exact ln_done hok (fun w h => h.2) (fun k hk => .inr hk) (fun k hk => .inl (hsub k hk)) Fnb (by intros; kernel_rfl) (by intros; kernel_rfl)
  have e : L.jump slot = ({ L with next := slot, de := above L.de (slot - 1), vo := above L.vo (slot - 1) }, true) := by unfold Ln.jump; rw [if_neg (by omega)]
  rw [e]
  have e1 : IntKind.i64.wrap (slot - 1) = slot - 1 := wrap_i64 (by omega)
  refine node_forD (slot - 1) hok (fun ids => by rw [← e1]; kernel_rfl) (by intros; kernel_rfl) (by kernel_rfl) (by kernel_rfl) (by kernel_rfl) (fun k hk => ⟨id, .inr (hsub k hk)⟩) ?_
  have hok1 := hok.cutd (slot - 1)
  refine node_forV (slot - 1) hok1 (fun ids => by rw [← e1]; kernel_rfl) (by intros; kernel_rfl) (by kernel_rfl) (by kernel_rfl) (by kernel_rfl) (fun k hk => ⟨id, .inr (hsub k hk)⟩) ?_
  have hok2 := hok1.cutv (slot - 1)
  have hok3 : LOk { L with next := slot, de := above L.de (slot - 1), vo := above L.vo (slot - 1) } ((D.cutd (slot - 1)).cutv (slot - 1)) := ⟨hok2.de, hok2.vo, hok2.gm, hok2.gd, hok2.gv, hok2.ne, hok2.nv, hok2.nn, hok2.ng⟩
  exact ln_done hok3 (fun w h => h.2) (fun k hk => .inr hk) (fun k hk => .inl (hsub k (cutv_F hk))) Fnb (by intros; kernel_rfl) (by intros; kernel_rfl)
/-- The slots that are not decided. -/
def missF (de : List (Int × Vl)) (top most : Int) : Nat → Int → List Int → List Int
  | 0, _, out => out
  | n + 1, s, out => if s ≤ top ∧ (out.length : Int) < most then missF de top most n (s + 1) (if (mlk de s).isSome then out else out ++ [s]) else out
theorem missF_step (de : List (Int × Vl)) (top most : Int) (n : Nat) (s : Int) (out : List Int) : missF de top most (n + 1) s out = if s ≤ top ∧ (out.length : Int) < most then missF de top most n (s + 1) (if (mlk de s).isSome then out else out ++ [s]) else out := rfl
def _root_.Go.Eng.Ln.missing (L : Ln) (most : Int) : List Int := missF L.de L.top most (L.top - L.next + 1).toNat L.next []
def MiI (w : World) (D : LD) (L : Ln) (most : Int) (vs : Vals) (hx : HX) (n : Nat) : Prop := ∃ (s : Int) (a : Option Addr) (cap : Nat) (out : List Int), vs = ⟨[s], [], [], [out.length, cap], [a]⟩ ∧ L.next ≤ s ∧ s ≤ 1099511627778 ∧ (out.length : Int) ≤ s - L.next ∧ n = (L.top - s + 1).toNat ∧ missF L.de L.top most n s out = L.missing most ∧ hx = D.X.and (HX.rw 1 3 a out.length cap (out.map (Value.int .i64))) ∧ ∀ k, cap ≠ 0 → abk a = some k → w.heap.size ≤ k ∧ ¬ D.F k
theorem lmiss_any (most : Int) (hB : Blk w nb (lnC L D) 77) (hX : D.At w) (hok : LOk L D) (hinv : LnInv L) (hnb : ¬ D.F nb) (hD : ∀ k, D.F k → k < w.heap.size) :
    Calls Try.prog 23 #[.pointer (some ⟨nb, 0, none⟩), .int .i64 most] w (RwNew w id 1 3 (L.missing most).length ((L.missing most).map (Value.int .i64))) := by
  refine calls_at (tab_ok _) Try.func23 rfl tLMiss (ρ := ⟨[L.next, L.top, most], [], [.map (some D.bv), .map (some D.bd)], [L.mem.length, D.cm], [D.am]⟩) (ids := [nb]) (hx := D.X) rfl (Facts.initx (M := fun x => x = nb) rfl (fun v hv => by simp only [List.mem_cons, List.not_mem_nil, or_false] at hv; rcases hv with rfl | rfl <;> rfl) hB rfl rfl hX (fun k hk => ⟨hD k hk, fun e => hnb (e ▸ hk)⟩)) ?_
  have n1 := hinv.next1
  have n2 := hinv.next2
  have t0 := hinv.top0
  have t2 := hinv.top2
  refine ⟨MiI w D L most, fun ids w2 hp hf => ⟨D.X.and (HX.rw 1 3 none 0 0 []), _, ⟨⟨hf.x, HX.rw_nil _ _ _ _⟩, fun k hk => hk.elim (hf.sep k) fun q => absurd rfl q.1⟩, L.next, none, 0, [], rfl, by omega, by omega, by simp, rfl, rfl, rfl, fun k h => absurd rfl h⟩, ?_⟩
  rintro vs hx' n hcnt ⟨s, a, cap, out, rfl, hs, hs2, hl, rfl, hm, rfl, hfr⟩
  refine holds_env (ρ' := ⟨[L.next, L.top, most, s], [], [.map (some D.bv), .map (some D.bd)], [L.mem.length, D.cm, out.length, cap], [D.am, a]⟩) rfl ?_
  have fin : ¬ (s ≤ L.top ∧ (out.length : Int) < most) → (Tree.done (.lf (.sl 1 (.var 2) (.var 3))) ⟨[(77, [.sl 0 (.var 0) (.var 1), .int .i64 (.var 0), .int .i64 (.var 1), .val 0, .val 1])], ⟨4, 0, 2, 4, 2⟩⟩).holds ⟨Try.prog, w, fun x => x = nb, RwNew w id 1 3 (L.missing most).length ((L.missing most).map (Value.int .i64))⟩ ⟨[L.next, L.top, most, s], [], [.map (some D.bv), .map (some D.bd)], [L.mem.length, D.cm, out.length, cap], [D.am, a]⟩ [nb] (D.X.and (HX.rw 1 3 a out.length cap (out.map (Value.int .i64)))) [(5, fun vs' hx'' => ∃ n', n' < (L.top - s + 1).toNat ∧ MiI w D L most vs' hx'' n')] := fun h ids w2 hp hf => by
    have e : L.missing most = out := by
      rw [← hm]
      cases (L.top - s + 1).toNat with
      | zero => rfl
      | succ n => rw [missF_step, if_neg h]
    rw [e]
    exact ⟨a, cap, rfl, hf.x.2, fun k h1 h2 => (hfr k h1 h2).1, (hf.chg.same (hf.same1 hp hB rfl)).below⟩
  refine br_D (p := s ≤ L.top) (by kernel_rfl) (fun h1 => ?_) (fun h1 => fin fun q => h1 q.1)
  refine br_D (p := (out.length : Int) < most) (by kernel_rfl) (fun h2 => ?_) (fun h2 => fin fun q => h2 q.2)
  obtain ⟨g1, g2, g3, g4⟩ := hok.got s
  refine node_vlook (z := vlV vz none 0 none 0) (mt := 75) (kt := 3) (et := 32) ⟨[(D.got s).v.k], [(L.known s).2], [], [(D.got s).v.cs.length, (D.got s).c1, (D.got s).v.ns.length, (D.got s).c2], [(D.got s).a1, (D.got s).a2]⟩ D.bd (mmap Pv.val D.ds) s (fun w h => h.1.d) (by intros; kernel_rfl) (by intros; kernel_rfl) Try.underlying75 Try.underlying3 zero_val (fun ids => ?_) (by kernel_rfl) (by kernel_rfl) (by kernel_rfl) oneNil ?_
  · rw [vlk_is, g3]
    show Value.tuple #[(D.got s).val, .bool (L.known s).2] = _
    rw [g2, mlk_map, Option.isSome_map]
  obtain ⟨n0, en⟩ : ∃ n0, (L.top - s + 1).toNat = n0 + 1 := ⟨(L.top - s).toNat, by omega⟩
  have en2 : n0 = (L.top - (s + 1) + 1).toNat := by omega
  have ew : IntKind.i64.wrap (s + 1) = s + 1 := wrap_i64 (by omega)
  have hm2 : missF L.de L.top most n0 (s + 1) (if (mlk L.de s).isSome then out else out ++ [s]) = L.missing most := by
    rw [← hm, en, missF_step, if_pos (And.intro h1 h2)]
  refine br_B (!(L.known s).2) (by kernel_rfl) (fun h => ?_) (fun h => ?_)
  · have h : (mlk L.de s).isSome = false := by have h : (!(mlk L.de s).isSome) = true := h; simpa using h
    rw [if_neg (by rw [h]; decide)] at hm2
    refine node_pushs (e := 3) (sz := 1) rfl Try.underlying26 info_int1 rfl (by decide) a out.length cap (out.map (Value.int .i64)) [.int .i64 s] 2 (by intros; kernel_rfl) (by intros; kernel_rfl) rfl (by intros; kernel_rfl) rfl (fun v hv => by simp only [List.mem_singleton] at hv; subst hv; rfl) (fun k q1 q2 => (hfr k q1 q2).2) (fun k q1 q2 => .inl (hfr k q1 q2).1) (by unfold maxLen; omega) (by omega) (by intros; kernel_rfl) (by kernel_rfl) (by kernel_rfl) (by intros; kernel_rfl) ?_
    intro a' cap' hc' hr' hor
    refine again_V ⟨[s + 1], [], [], [(out ++ [s]).length, cap'], [a']⟩ rfl (fun ids => by rw [← ew, List.length_append]; kernel_rfl) _ (fun w2 ids hf => ⟨hf.x, hf.sep⟩) ⟨n0, by omega, s + 1, a', cap', out ++ [s], rfl, by omega, by omega, by rw [List.length_append]; simp only [List.length_cons, List.length_nil]; omega, en2, hm2, ?_, fun k q1 q2 => ⟨?_, hr' k q2⟩⟩
    · rw [List.length_append, List.map_append]; rfl
    · rcases hor with ⟨r1, r2⟩ | ⟨g, r1, r2, _⟩
      · exact (hfr k r1 (by rw [← r2]; exact q2)).1
      · rw [r1] at q2; cases q2; exact r2
  · have h : (mlk L.de s).isSome = true := by have h : (!(mlk L.de s).isSome) = false := h; simpa using h
    rw [if_pos h] at hm2
    exact again_V ⟨[s + 1], [], [], [out.length, cap], [a]⟩ rfl (fun ids => by rw [← ew]; kernel_rfl) _ (fun w2 ids hf => ⟨hf.x, hf.sep⟩) ⟨n0, by omega, s + 1, a, cap, out, rfl, by omega, by omega, by omega, en2, hm2, rfl, hfr⟩
end
end Go.Proofs.Ythmlhnkdiafpkaa
