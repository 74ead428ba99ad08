/- Contracts of the writer. -/
import Derived.Test.YtadgaefmoobcoaaNum
import Derived.Test.YtadgaefmoobcoaaByO
namespace Go.Proofs.Ytadgaefmoobcoaa
open Go.ChangeShapes Go.WideShapes Go.ChangeAt Go.RowKit Go.Syn Go.Eng
set_option linter.unusedVariables false
set_option maxRecDepth 100000
set_option linter.unusedSimpArgs false
structure WAt (w : World) (nb : Nat) (a : Option Addr) (cap : Nat) (bs : List Int) : Prop where
  blk : Blk w nb [.slice a bs.length cap] 113
  mem : (frow a cap bs).X w
  sep : ∀ k, (frow a cap bs).F k → k < w.heap.size ∧ k ≠ nb
/-- What a method of a writer does. -/
def WR (w : World) (nb : Nat) (a : Option Addr) (cap : Nat) (bs' : List Int) (V : Value) (e : Ending) (w' : World) : Prop :=
  ∃ a' cap', e = .returned V ∧ Blk w' nb [.slice a' bs'.length cap'] 113 ∧ (frow a' cap' bs').X w' ∧ Chg (fun x => x = nb ∨ (cap ≠ 0 ∧ abk a = some x)) w w' ∧ (∀ k, cap' ≠ 0 → abk a' = some k → (cap ≠ 0 ∧ abk a = some k) ∨ w.heap.size ≤ k)
theorem digs_step {n u j : Nat} (h : j < n) : (digs n u).take (j + 1) = (digs n u).take j ++ [((u / 256 ^ (n - 1 - j) % 256 : Nat) : Int)] := by
  rw [List.take_add_one, digs_get n u j h]; rfl
def WnI (W : World) (a : Option Addr) (cap : Nat) (bs : List Int) (u : Nat) (vs : Vals) (hx : HX) : Prop := ∃ (j : Nat) (a' : Option Addr) (cap' : Nat), j ≤ nlen u ∧ (∀ k, cap' ≠ 0 → abk a' = some k → (cap ≠ 0 ∧ abk a = some k) ∨ W.heap.size ≤ k) ∧
  vs = ⟨[(nlen u : Int) - 1 - j], [], [], [(bs ++ (nlen u : Int) :: (digs (nlen u) u).take j).length, cap'], [a']⟩ ∧ hx = HX.nil.and (frow a' cap' (bs ++ (nlen u : Int) :: (digs (nlen u) u).take j))
set_option maxRecDepth 100000 in
theorem wnum_any (nb : Nat) (a : Option Addr) (cap : Nat) (bs : List Int) (u : Nat) (hu : u < 2 ^ 64) (w : World) (H : WAt w nb a cap bs) (hl : bs.length + 9 ≤ 140737488355328) : Calls Try.prog 42 #[.pointer (some ⟨nb, 0, none⟩), .int .u64 (u : Int)] w (WR w nb a cap (bs ++ numB u) (.pointer (some ⟨nb, 0, none⟩))) := by
  have h8 := nlen_8 hu
  refine calls_at (tab_ok _) Try.func42 rfl tWNum (ρ := ⟨[(u : Int)], [], [], [bs.length, cap], [a]⟩) (ids := [nb]) (hx := HX.nil.and (frow a cap bs)) (M := fun x => x = nb ∨ (cap ≠ 0 ∧ abk a = some x)) rfl (Facts.initx rfl oneNil H.blk rfl (.inl rfl) ⟨trivial, H.mem⟩ (fun k hk => hk.elim (fun q => q.elim) (H.sep k))) ?_
  refine node_val ⟨[((nlen u + 1 : Nat) : Int)], [], [], [], []⟩ (fun w => size_any hu w) (fun _ => rfl) (fun _ => rfl) rfl rfl rfl oneNil ?_
  have hn1 : IntKind.i64.wrap (((nlen u + 1 : Nat) : Int) - 1) = (nlen u : Int) := by rw [wrap_i64 (by omega)]; omega
  refine node_pushs (sz := 1) (vs := [.int .u8 (nlen u : Int)]) rfl Try.underlying35 info_byte rfl (by decide) a bs.length cap (bcells bs) 1 (fun _ => rfl) (fun _ => rfl) rfl (fun _ => ?_) rfl (by simp [Value.oneCell']) (fun k _ _ q => q.elim) (fun k h1 h2 => .inr (.inr ⟨h1, h2⟩)) (by unfold maxLen; omega) (by omega) (fun _ _ _ => rfl) rfl rfl (fun _ _ => rfl) ?_
  · show [Value.int .u8 (IntKind.u8.wrap (IntKind.i64.wrap (((nlen u + 1 : Nat) : Int) - 1)))] = _
    rw [hn1, u8_small (by omega)]
  intro a1 c1 hc1 hf1 hor1
  have hfr : ∀ k, c1 ≠ 0 → abk a1 = some k → (cap ≠ 0 ∧ abk a = some k) ∨ w.heap.size ≤ k := fun k h1 h2 => by
    rcases hor1 with ⟨q1, q2⟩ | ⟨g, q1, q2, _⟩
    · exact .inl ⟨q1, q2 ▸ h2⟩
    · rw [q1] at h2; cases h2; exact .inr q2
  rw [frow_snoc]
  have hlen : ∀ j, j ≤ nlen u → (bs ++ (nlen u : Int) :: (digs (nlen u) u).take j).length = bs.length + 1 + j := fun j hj => by
    rw [List.length_append, List.length_cons, List.length_take, digs_len]; omega
  refine loop_i (WnI w a cap bs u) (fun vs => (vs.i.headD 0 + 1).toNat) (fun ids w2 hp hf => ⟨_, ⟨hf.x, hf.sep⟩, 0, a1, c1, Nat.zero_le _, hfr, ?_, by rw [List.take_zero]⟩) ?_
  · rw [hlen 0 (Nat.zero_le _)]
    show (⟨[IntKind.i64.wrap (IntKind.i64.wrap (((nlen u + 1 : Nat) : Int) - 1) - 1)], [], [], [bs.length + 1, c1], [a1]⟩ : Vals) = _
    rw [hn1, wrap_i64 (by omega)]
    simp
  rintro vs hx' hcnt ⟨j, a2, c2, hj, hfr2, rfl, rfl⟩
  by_cases hlt : j < nlen u
  · refine br_t (show decide ((nlen u : Int) - 1 - j ≥ 0) = true from decide_eq_true (by omega)) ?_
    have e8 : ifn .mul .i64 8 ((nlen u : Int) - 1 - j) = ((8 * (nlen u - 1 - j) : Nat) : Int) := by
      show IntKind.i64.wrap (8 * ((nlen u : Int) - 1 - j)) = _
      rw [wrap_i64 (by omega)]; omega
    have ebyte : IntKind.u8.wrap (ifn .shr .u64 (u : Int) (ifn .mul .i64 8 ((nlen u : Int) - 1 - j))) = ((u / 256 ^ (nlen u - 1 - j) % 256 : Nat) : Int) := by
      rw [e8, shr_u64 (by omega), show (2 : Nat) ^ (8 * (nlen u - 1 - j)) = 256 ^ (nlen u - 1 - j) by rw [Nat.pow_mul]]
      generalize u / 256 ^ (nlen u - 1 - j) = q
      show (q : Int) % 256 = _
      omega
    refine need_i (show (0 : Int) ≤ ifn .mul .i64 8 ((nlen u : Int) - 1 - j) by rw [e8]; omega) ?_
    have way : ∀ {ty : Nat} {ps : List (Nat × SV)} {m m' : Mem} {t : Tree} {r : SV} {L : Stack} (hx : HX), t = t → True := fun _ _ => trivial
    have hpl := hlen j hj
    refine par_i ?_ ?_
    all_goals
      refine node_pushs (sz := 1) (vs := [.int .u8 ((u / 256 ^ (nlen u - 1 - j) % 256 : Nat) : Int)]) rfl Try.underlying35 info_byte rfl (by decide) a2 (bs ++ (nlen u : Int) :: (digs (nlen u) u).take j).length c2 (bcells (bs ++ (nlen u : Int) :: (digs (nlen u) u).take j)) 2 (fun _ => rfl) (fun _ => rfl) rfl (fun _ => ?_) rfl (by simp [Value.oneCell']) (fun k _ _ q => q.elim) (fun k h1 h2 => ?_) (by unfold maxLen; omega) (by omega) (fun _ _ _ => rfl) rfl rfl (fun _ _ => rfl) ?_
      · show [Value.int .u8 (IntKind.u8.wrap (ifn .shr .u64 (u : Int) (ifn .mul .i64 8 ((nlen u : Int) - 1 - j))))] = _
        rw [ebyte]
      · rcases hfr2 k h1 h2 with q | q
        · exact .inr (.inr q)
        · exact .inl q
      intro a3 c3 hc3 hf3 hor3
      rw [frow_snoc, List.append_assoc, List.cons_append, ← digs_step hlt]
      intro ids w2 hp hf
      refine ⟨_, ⟨hf.x, hf.sep⟩, _, rfl, ⟨j + 1, a3, c3, by omega, fun k h1 h2 => ?_, ?_, rfl⟩, ?_⟩
      · rcases hor3 with ⟨q1, q2⟩ | ⟨g, q1, q2, _⟩
        · exact hfr2 k q1 (q2 ▸ h2)
        · rw [q1] at h2; cases h2; exact .inr q2
      · rw [hlen (j + 1) (by omega)]
        show (⟨[IntKind.i64.wrap ((nlen u : Int) - 1 - j - 1)], [], [], [(bs ++ (nlen u : Int) :: (digs (nlen u) u).take j).length + 1, c3], [a3]⟩ : Vals) = _
        rw [wrap_i64 (by omega), hpl]
        simp only [Vals.mk.injEq, List.cons.injEq, and_true, true_and]
        omega
      · show (IntKind.i64.wrap ((nlen u : Int) - 1 - j - 1) + 1).toNat < ((nlen u : Int) - 1 - j + 1).toNat
        rw [wrap_i64 (by omega)]; omega
  · refine br_f (show decide ((nlen u : Int) - 1 - j ≥ 0) = false from decide_eq_false (by omega)) ?_
    obtain rfl : j = nlen u := by omega
    have ht : (digs (nlen u) u).take (nlen u) = digs (nlen u) u := List.take_of_length_le (by rw [digs_len]; exact Nat.le_refl _)
    rw [ht]
    intro ids w2 hp hf
    refine ⟨a2, c2, ?_, ?_, hf.x.2, hf.chg, hfr2⟩
    · show Ending.returned (.pointer (some ⟨idAt ids 0, 0, none⟩)) = _
      rw [idAt0 hp]
    · have := hf.blkAt 0 rfl
      rw [idAt0 hp] at this
      exact this
section
variable {C : Cfg} {ρ : Env} {pre : List Nat} {rest : HX} {L : Stack} {m m' : Mem} {args : List SV} {r : SV} {t : Tree} {a : Option Addr} {cap : Nat} {bs bs' : List Int}
theorem w_at {ids : List Nat} {w : World} {cs : List LV} (n : Nat) (hf : Facts C m ρ ids (rest.and (frow a cap bs)) w) (hn : m.hp[n]? = some (113, cs)) (hcs : ∀ ids, cellsDen ρ ids cs = [.slice a bs.length cap]) : WAt w (idAt ids n) a cap bs := by
  have hlt : n < m.hp.length := by
    rcases Nat.lt_or_ge n m.hp.length with q | q
    · exact q
    · rw [List.getElem?_eq_none q] at hn; cases hn
  have hmem := idAt_mem (ids := ids) (n := n) (hf.len ▸ hlt)
  have hb := hf.blk n _ _ hn
  rw [hcs] at hb
  exact ⟨hb, hf.x.2, fun k hk => ⟨(hf.sep k (.inr hk)).1, fun e => (hf.sep k (.inr hk)).2 (e ▸ hmem)⟩⟩
theorem node_wr {fn : Nat} {cs : List LV} (n : Nat) (vs : Option Addr → Nat → Vals) (V : List Nat → Value) (AS : List Nat → Array Value) (hP : C.P = Try.prog) (hn : m.hp[n]? = some (113, cs)) (hcs : ∀ ids, cellsDen ρ ids cs = [.slice a bs.length cap]) (hM : ∀ k, cap ≠ 0 → abk a = some k → C.W.heap.size ≤ k ∨ C.M k) (hrest : ∀ k, cap ≠ 0 → abk a = some k → ¬ rest.F k)
    (hargs : ∀ ids, (args.map (SV.den ρ ids)).toArray = AS ids) (hcall : ∀ ids w, pre <+: ids → Facts C m ρ ids (rest.and (frow a cap bs)) w → WAt w (idAt ids n) a cap bs → Calls Try.prog fn (AS ids) w (WR w (idAt ids n) a cap bs' (V ids)))
    (cs' : List LV) (hhp : m'.hp = m.hp.set n (113, cs')) (hcs' : ∀ a' cap' ids, cellsDen (ρ.add (vs a' cap')) ids cs' = [.slice a' bs'.length cap']) (hr : ∀ a' cap' ids, r.den (ρ.add (vs a' cap')) ids = V ids) (hfit : hpFits m.c m.hp.length m.hp = true) (hc : ∀ a' cap', (ρ.add (vs a' cap')).cnt = m'.c) (h1 : ∀ a' cap' v, v ∈ (vs a' cap').v → v.oneCell' = true)
    (h : ∀ a' cap', (∀ k, cap' ≠ 0 → abk a' = some k → (C.W.heap.size ≤ k ∨ C.M k) ∧ ¬ rest.F k) → (∀ k, cap' ≠ 0 → abk a' = some k → (cap ≠ 0 ∧ abk a = some k) ∨ C.W.heap.size ≤ k) → t.holds C (ρ.add (vs a' cap')) pre (rest.and (frow a' cap' bs')) L) :
    (Tree.call fn args m r m' t).holds C ρ pre (rest.and (frow a cap bs)) L := by
  intro ids w hp hf
  rw [hP, hargs]
  refine (hcall ids w hp hf (w_at n hf hn hcs)).mono ?_
  rintro e w' ⟨a', cap', rfl, hb, hX, hch, hfr⟩
  have nres : ∀ k, w.heap.size ≤ k → ¬ rest.F k := fun k hk hF => by have := (hf.sep k (.inl hF)).1; omega
  have hlt : n < m.hp.length := by
    rcases Nat.lt_or_ge n m.hp.length with q | q
    · exact q
    · rw [List.getElem?_eq_none q] at hn; cases hn
  refine ⟨_, ids, rest.and (frow a' cap' bs'), by rw [← hr a' cap' ids], List.prefix_refl _, hf.act (hx' := rest.and (frow a' cap' bs')) hch (fun b hb => ?_) hn (by rw [hcs']; exact hb) ⟨rest.loc w w' hf.x.1 fun k hk => hch.block k (hf.sep k (.inl hk)).1 fun q => ?_, hX⟩ (fun k hk => ?_) hhp hfit (hc _ _) (h1 _ _), holds_pre t hp (h a' cap' (fun k h1 h2 => ⟨?_, fun hF => ?_⟩) (fun k h1 h2 => ?_))⟩
  · rcases hb with hb | ⟨h1, h2⟩
    · exact .inl hb
    · exact .inr ⟨.inr ⟨h1, h2⟩, hM b h1 h2⟩
  · rcases q with q | ⟨h1, h2⟩
    · exact (hf.sep k (.inl hk)).2 (q ▸ idAt_mem (hf.len ▸ hlt))
    · exact hrest k h1 h2 hk
  · rcases hk with hk | hk
    · exact .inl (.inl hk)
    · rcases hfr k hk.1 hk.2 with q | q
      · exact .inl (.inr q)
      · exact .inr ⟨q, frow_lt hX hk.1 hk.2⟩
  · rcases hfr k h1 h2 with q | q
    · exact hM k q.1 q.2
    · exact .inl (Nat.le_trans hf.chg.size q)
  · rcases hfr k h1 h2 with q | q
    · exact hrest k q.1 q.2 hF
    · exact nres k q hF
  · rcases hfr k h1 h2 with q | q
    · exact .inl q
    · exact .inr (Nat.le_trans hf.chg.size q)
end
theorem wint_any (nb : Nat) (a : Option Addr) (cap : Nat) (bs : List Int) (i : Int) (hi : I64 i) (w : World) (H : WAt w nb a cap bs) (hl : bs.length + 9 ≤ 140737488355328) : Calls Try.prog 45 #[.pointer (some ⟨nb, 0, none⟩), .int .i64 i] w (WR w nb a cap (bs ++ numB (foldN i)) (.pointer (some ⟨nb, 0, none⟩))) := by
  have hu := foldN_lt hi
  refine calls_at (tab_ok _) Try.func45 rfl tWInt (ρ := ⟨[i], [], [], [bs.length, cap], [a]⟩) (ids := [nb]) (hx := HX.nil.and (frow a cap bs)) (M := fun x => x = nb ∨ (cap ≠ 0 ∧ abk a = some x)) rfl (Facts.initx rfl oneNil H.blk rfl (.inl rfl) ⟨trivial, H.mem⟩ (fun k hk => hk.elim (fun q => q.elim) (H.sep k))) ?_
  refine node_val ⟨[(foldN i : Int)], [], [], [], []⟩ (fun w => fold_any hi w) (fun _ => rfl) (fun _ => rfl) rfl rfl rfl oneNil ?_
  refine node_wr 0 (fun a' c' => ⟨[], [], [], [(bs ++ numB (foldN i)).length, c'], [a']⟩) (fun ids => .pointer (some ⟨idAt ids 0, 0, none⟩)) (fun ids => #[.pointer (some ⟨idAt ids 0, 0, none⟩), .int .u64 (foldN i : Int)]) rfl rfl (fun _ => rfl) (fun k h1 h2 => .inr (.inr ⟨h1, h2⟩)) (fun k _ _ q => q.elim) (fun _ => rfl) (fun ids w2 hp hf HW => wnum_any _ a cap bs (foldN i) hu w2 HW hl) [.sl 1 (.var 2) (.var 3)] rfl (fun _ _ _ => rfl) (fun _ _ _ => rfl) rfl (fun _ _ => rfl) (fun _ _ => oneNil) ?_
  intro a' c' hk hk2 ids w2 hp hf
  refine ⟨a', c', ?_, ?_, hf.x.2, hf.chg, hk2⟩
  · show Ending.returned (.pointer (some ⟨idAt ids 0, 0, none⟩)) = _
    rw [idAt0 hp]
  · have := hf.blkAt 0 rfl
    rw [idAt0 hp] at this
    exact this
theorem wbytes_any (nb : Nat) (a : Option Addr) (cap : Nat) (bs : List Int) (w : World) (H : WAt w nb a cap bs) (hl : bs.length ≤ 140737488355328) : Calls Try.prog 47 #[.pointer (some ⟨nb, 0, none⟩)] w (NewO w id bs) := by
  refine calls_at (tab_ok _) Try.func47 rfl tWBytes (ρ := ⟨[], [], [], [bs.length, cap], [a]⟩) (ids := [nb]) (hx := frow a cap bs) (M := fun x => x = nb) rfl (Facts.initx rfl oneNil H.blk rfl rfl H.mem H.sep) ?_
  refine node_appends (xs := []) rfl Try.underlying35 info_byte rfl (by decide) none 0 0 (fun _ => a) bs.length cap (bcells bs) (by simp [bcells_len]) (fun ids w _ _ => HX.rw_nil _ _ _ w) (fun ids w2 hp hf => frow_cells hf.x) (bcells_one bs) (fun w h => ⟨h, fun _ q => q⟩) (fun k h => absurd rfl h) (fun k h => absurd rfl h) (fun k h => absurd rfl h) (by unfold maxLen; omega) (by omega) (by intros; kernel_rfl) (by intros; kernel_rfl) (by intros; kernel_rfl) rfl rfl (fun _ _ => rfl) ?_
  intro a' c' _ hd hw ids w2 hp hf
  have e0 := hf.blkAt 0 rfl
  rw [idAt0 hp] at e0
  have hX := hf.x.2
  rw [Nat.zero_add, List.nil_append] at hX
  refine ⟨a', c', ?_, hX, fun k h1 h2 => ?_, (hf.chg.same (e0.trans H.blk.symm)).below⟩
  · show Ending.returned (.slice a' (0 + bs.length) c') = _
    rw [Nat.zero_add]; rfl
  · rcases hw k h1 h2 with q | q
    · exact absurd rfl q.1
    · exact q.1
theorem wnew_any (w : World) : Calls Try.prog 40 #[] w (NewB w 113 [.slice none 0 0]) := by
  refine calls_at (tab_ok _) Try.func40 rfl tWNew (ρ := ⟨[], [], [], [], []⟩) (ids := []) rfl (Facts.initP rfl oneNil) ?_
  exact new_done (k := 0) rfl (fun _ => rfl) (fun _ => rfl)
end Go.Proofs.Ytadgaefmoobcoaa
