/- The fetch's methods as nodes; the head of layer 21. -/
import Derived.Test.YtgphmdccmaibmaaFetM
import Derived.Test.YtgphmdccmaibmaaTrL
namespace Go.Proofs.Ytgphmdccmaibmaa
open Go.ChangeShapes Go.WideShapes Go.ChangeAt Go.RowKit Go.Syn Go.Eng
set_option linter.unusedVariables false
set_option linter.unusedSimpArgs false
theorem one1 {u : ByteArray} : ∀ v, v ∈ [Value.string u] → v.oneCell' = true := fun v hv => by simp only [List.mem_singleton] at hv; subst hv; rfl
section
variable {C : Cfg} {ρ : Env} {pre : List Nat} {rest : HX} {L : Stack} {m m' : Mem} {args : List SV} {r : SV} {t : Tree} {a : Option Addr} {cap : Nat} {f f' : Ft}
theorem fet_at {ids : List Nat} {w : World} {cs : List LV} (n : Nat) (hf : Facts C m ρ ids (rest.and (frow a cap f.got)) w) (hn : m.hp[n]? = some (61, cs)) (hcs : ∀ ids, cellsDen ρ ids cs = f.cells a cap) : FetAt w (idAt ids n) a cap f := by
  have hlt : n < m.hp.length := by
    rcases Nat.lt_or_ge n m.hp.length with q | q
    · exact q
    · rw [List.getElem?_eq_none q] at hn; cases hn
  have hmem := idAt_mem (ids := ids) (n := n) (hf.len ▸ hlt)
  have hb := hf.blk n _ _ hn
  rw [hcs] at hb
  exact ⟨hb, hf.x.2, fun k hk => ⟨(hf.sep k (.inr hk)).1, fun e => (hf.sep k (.inr hk)).2 (e ▸ hmem)⟩⟩
theorem node_fet {fn : Nat} {cs : List LV} {img : List Int} {V : Value → Value} (n : Nat) (vs : Option Addr → Nat → Option Addr → Nat → Vals) (hP : C.P = Try.prog) (hn : m.hp[n]? = some (61, cs)) (hcs : ∀ ids, cellsDen ρ ids cs = f.cells a cap) (hM : ∀ k, cap ≠ 0 → abk a = some k → C.W.heap.size ≤ k ∨ C.M k) (hrest : ∀ k, cap ≠ 0 → abk a = some k → ¬ rest.F k)
    (hcall : ∀ ids w, pre <+: ids → Facts C m ρ ids (rest.and (frow a cap f.got)) w → FetAt w (idAt ids n) a cap f → Calls Try.prog fn (args.map (SV.den ρ ids)).toArray w (FR w (idAt ids n) a cap f' img V))
    (cs' : List LV) (hhp : m'.hp = m.hp.set n (61, cs')) (hcs' : ∀ a' cap' ai ci ids, cellsDen (ρ.add (vs a' cap' ai ci)) ids cs' = f'.cells a' cap') (hr : ∀ a' cap' ai ci ids, r.den (ρ.add (vs a' cap' ai ci)) ids = V (.slice ai img.length ci)) (hfit : hpFits m.c m.hp.length m.hp = true) (hc : ∀ a' cap' ai ci, (ρ.add (vs a' cap' ai ci)).cnt = m'.c) (h1 : ∀ a' cap' ai ci v, v ∈ (vs a' cap' ai ci).v → v.oneCell' = true)
    (h : ∀ a' cap' ai ci, (∀ k, cap' ≠ 0 → abk a' = some k → (C.W.heap.size ≤ k ∨ C.M k) ∧ ¬ (rest.and (HX.cl ai (bcells img))).F k) → t.holds C (ρ.add (vs a' cap' ai ci)) pre ((rest.and (HX.cl ai (bcells img))).and (frow a' cap' f'.got)) L) :
    (Tree.call fn args m r m' t).holds C ρ pre (rest.and (frow a cap f.got)) L := by
  intro ids w hp hf
  rw [hP]
  refine (hcall ids w hp hf (fet_at n hf hn hcs)).mono ?_
  rintro e w' ⟨a', cap', ai, ci, rfl, hb, hci, hX, hch, hfr, hfi⟩
  have nres : ∀ k, w.heap.size ≤ k → ¬ rest.F k := fun k hk hF => by have := (hf.sep k (.inl hF)).1; omega
  have hlt : n < m.hp.length := by
    rcases Nat.lt_or_ge n m.hp.length with q | q
    · exact q
    · rw [List.getElem?_eq_none q] at hn; cases hn
  have hrowlt : ∀ k, cap' ≠ 0 → abk a' = some k → k < w'.heap.size := fun k h1 h2 => by
    obtain ⟨g, _, rfl, q, _⟩ := rw_open hX h1
    cases h2; exact q
  refine ⟨_, ids, (rest.and (HX.cl ai (bcells img))).and (frow a' cap' f'.got), by rw [← hr a' cap' ai ci ids], List.prefix_refl _, hf.act (hx' := (rest.and (HX.cl ai (bcells img))).and (frow a' cap' f'.got)) hch (fun b hb => ?_) hn (by rw [hcs']; exact hb) ⟨⟨rest.loc w w' hf.x.1 fun k hk => hch.block k (hf.sep k (.inl hk)).1 fun q => ?_, hci⟩, hX⟩ (fun k hk => ?_) hhp hfit (hc _ _ _ _) (h1 _ _ _ _), holds_pre t hp (h a' cap' ai ci fun k h1 h2 => ⟨?_, fun hF => ?_⟩)⟩
  · rcases hb with hb | ⟨h1, h2⟩
    · exact .inl hb
    · exact .inr ⟨.inr ⟨h1, h2⟩, hM b h1 h2⟩
  · rcases q with q | ⟨h1, h2⟩
    · exact (hf.sep k (.inl hk)).2 (q ▸ idAt_mem (hf.len ▸ hlt))
    · exact hrest k h1 h2 hk
  · rcases hk with (hk | hk) | hk
    · exact .inl (.inl hk)
    · rcases hfi k hk with q | q
      · exact .inl (.inr q)
      · exact .inr ⟨q, cl_sep hci k hk⟩
    · rcases (hfr k hk.1 hk.2).1 with q | q
      · exact .inl (.inr q)
      · exact .inr ⟨q, hrowlt k hk.1 hk.2⟩
  · rcases (hfr k h1 h2).1 with q | q
    · exact hM k q.1 q.2
    · exact .inl (Nat.le_trans hf.chg.size q)
  · rcases hF with hF | hF
    · rcases (hfr k h1 h2).1 with q | q
      · exact hrest k q.1 q.2 hF
      · exact nres k q hF
    · exact (hfr k h1 h2).2 hF
/-- The data of a message, and a fetch. -/
theorem data_apart {ids : List Nat} {w : World} {hx : HX} {n : Nat} {F : Nat → Prop} (hf : Facts C m ρ ids hx w) (hn : n < m.hp.length) (hF : ∀ k, F k → hx.F k) : ∀ k, F k → k ≠ idAt ids n := fun k hk e => (hf.sep k (hF k hk)).2 (e ▸ idAt_mem (hf.len ▸ hn))
end
/-- The fetch's row is one's own, and apart. -/
def RowOk (C : Cfg) (a : Option Addr) (cap : Nat) (rest : HX) : Prop := ∀ k, cap ≠ 0 → abk a = some k → (C.W.heap.size ≤ k ∨ C.M k) ∧ ¬ rest.F k
theorem row_ok0 {C : Cfg} {rest : HX} : RowOk C none 0 rest := fun k h => absurd rfl h
section
variable {C : Cfg} {ρ : Env} {pre : List Nat} {rest : HX} {L : Stack} {m m' : Mem} {args : List SV} {r : SV} {t : Tree} {a : Option Addr} {cap : Nat} {f f' : Ft}
theorem node_fetr {fn : Nat} {cs : List LV} {img : List Int} {V : Value → Value} (n : Nat) (AS : Nat → Array Value) (vs : Option Addr → Nat → Option Addr → Nat → Vals) (hP : C.P = Try.prog) (hn : m.hp[n]? = some (61, cs)) (hcs : ∀ ids, cellsDen ρ ids cs = f.cells a cap) (hok : RowOk C a cap rest) (hargs : ∀ ids, (args.map (SV.den ρ ids)).toArray = AS (idAt ids n))
    (hcall : ∀ ids w, pre <+: ids → Facts C m ρ ids (rest.and (frow a cap f.got)) w → FetAt w (idAt ids n) a cap f → Calls Try.prog fn (AS (idAt ids n)) w (FR w (idAt ids n) a cap f' img V))
    (cs' : List LV) (hhp : m'.hp = m.hp.set n (61, cs')) (hcs' : ∀ a' cap' ai ci ids, cellsDen (ρ.add (vs a' cap' ai ci)) ids cs' = f'.cells a' cap') (hr : ∀ a' cap' ai ci ids, r.den (ρ.add (vs a' cap' ai ci)) ids = V (.slice ai img.length ci)) (hfit : hpFits m.c m.hp.length m.hp = true) (hc : ∀ a' cap' ai ci, (ρ.add (vs a' cap' ai ci)).cnt = m'.c) (h1 : ∀ a' cap' ai ci v, v ∈ (vs a' cap' ai ci).v → v.oneCell' = true)
    (h : ∀ a' cap' ai ci, RowOk C a' cap' (rest.and (HX.cl ai (bcells img))) → t.holds C (ρ.add (vs a' cap' ai ci)) pre ((rest.and (HX.cl ai (bcells img))).and (frow a' cap' f'.got)) L) :
    (Tree.call fn args m r m' t).holds C ρ pre (rest.and (frow a cap f.got)) L :=
  node_fet n vs hP hn hcs (fun k h1 h2 => (hok k h1 h2).1) (fun k h1 h2 => (hok k h1 h2).2) (fun ids w hp hf hA => by rw [hargs]; exact hcall ids w hp hf hA) cs' hhp hcs' hr hfit hc h1 h
/-- The same where no image comes out. -/
theorem node_fet0 {fn : Nat} {cs : List LV} {V : Value → Value} (n : Nat) (AS : Nat → Array Value) (vs : Option Addr → Nat → Option Addr → Nat → Vals) (hP : C.P = Try.prog) (hn : m.hp[n]? = some (61, cs)) (hcs : ∀ ids, cellsDen ρ ids cs = f.cells a cap) (hok : RowOk C a cap rest) (hargs : ∀ ids, (args.map (SV.den ρ ids)).toArray = AS (idAt ids n))
    (hcall : ∀ ids w, pre <+: ids → Facts C m ρ ids (rest.and (frow a cap f.got)) w → FetAt w (idAt ids n) a cap f → Calls Try.prog fn (AS (idAt ids n)) w (FR w (idAt ids n) a cap f' [] V))
    (cs' : List LV) (hhp : m'.hp = m.hp.set n (61, cs')) (hcs' : ∀ a' cap' ai ci ids, cellsDen (ρ.add (vs a' cap' ai ci)) ids cs' = f'.cells a' cap') (hr : ∀ a' cap' ai ci ids, r.den (ρ.add (vs a' cap' ai ci)) ids = V (.slice ai 0 ci)) (hfit : hpFits m.c m.hp.length m.hp = true) (hc : ∀ a' cap' ai ci, (ρ.add (vs a' cap' ai ci)).cnt = m'.c) (h1 : ∀ a' cap' ai ci v, v ∈ (vs a' cap' ai ci).v → v.oneCell' = true)
    (h : ∀ a' cap' ai ci, RowOk C a' cap' rest → t.holds C (ρ.add (vs a' cap' ai ci)) pre (rest.and (frow a' cap' f'.got)) L) :
    (Tree.call fn args m r m' t).holds C ρ pre (rest.and (frow a cap f.got)) L :=
  node_fet n vs hP hn hcs (fun k h1 h2 => (hok k h1 h2).1) (fun k h1 h2 => (hok k h1 h2).2) (fun ids w hp hf hA => by rw [hargs]; exact hcall ids w hp hf hA) cs' hhp hcs' hr hfit hc h1 (fun a' cap' ai ci hk => by
    rw [cl_none] at hk ⊢
    exact h a' cap' ai ci hk)
theorem node_pull {vs : Vals} {cs : List LV} {V : Value} (n : Nat) (hP : C.P = Try.prog) (hn : m.hp[n]? = some (61, cs)) (hcs : ∀ ids, cellsDen ρ ids cs = f.cells a cap) (hV : ∀ nb w, Blk w nb (f.cells a cap) 61 → Calls Try.prog 12 #[.pointer (some ⟨nb, 0, none⟩)] w (PureAt w V)) (hargs : ∀ ids, (args.map (SV.den ρ ids)).toArray = #[.pointer (some ⟨idAt ids n, 0, none⟩)])
    (hr : ∀ ids, r.den (ρ.add vs) ids = V) (hhp : m'.hp = m.hp) (hfit : hpFits m.c m.hp.length m.hp = true) (hc : (ρ.add vs).cnt = m'.c) (h1 : ∀ v, v ∈ vs.v → v.oneCell' = true)
    (h : t.holds C (ρ.add vs) pre rest L) : (Tree.call 12 args m r m' t).holds C ρ pre rest L :=
  node_pure vs hhp hfit hc h1 (fun ids w hp hf => by
    rw [hargs, hr, hP]
    have hb := hf.blk n _ _ hn
    rw [hcs] at hb
    exact hV _ w hb) h
theorem node_newr {fn : Nat} {V : Value → Value} {bs g : List Int} (AS : Array Value) (vs : Option Addr → Nat → Vals) (hok : RowOk C a cap rest) (hargs : ∀ ids, (args.map (SV.den ρ ids)).toArray = AS) (hcall : ∀ ids w, pre <+: ids → Facts C m ρ ids (rest.and (frow a cap g)) w → Calls C.P fn AS w (NewD w V bs))
    (hr : ∀ a' c' ids, r.den (ρ.add (vs a' c')) ids = V (.slice a' bs.length c')) (hhp : m'.hp = m.hp) (hfit : hpFits m.c m.hp.length m.hp = true) (hc : ∀ a' c', (ρ.add (vs a' c')).cnt = m'.c) (h1 : ∀ a' c' v, v ∈ (vs a' c').v → v.oneCell' = true)
    (h : ∀ a' c', bs.length ≤ c' → RowOk C a cap (rest.and (HX.cl a' (bcells bs))) → t.holds C (ρ.add (vs a' c')) pre ((rest.and (HX.cl a' (bcells bs))).and (frow a cap g)) L) : (Tree.call fn args m r m' t).holds C ρ pre (rest.and (frow a cap g)) L :=
  node_newd vs (fun ids w hp hf => by rw [hargs]; exact hcall ids w hp hf) hr hhp hfit hc h1 (fun a' c' hc' hn => by
    rw [HX.and_right_comm]
    refine h a' c' hc' (fun k h1 h2 => ⟨(hok k h1 h2).1, fun hF => hF.elim (hok k h1 h2).2 fun hF => ?_⟩)
    obtain ⟨h3, rfl⟩ := hF
    exact (hn (fun e => h3 (by rw [e]; rfl))).2 (.inr ⟨h1, h2⟩))
theorem holds_frow0 {C : Cfg} {ρ : Env} {pre : List Nat} {hx : HX} {L : Stack} {t : Tree} (h : t.holds C ρ pre (hx.and (frow none 0 Ft.zero.got)) L) : t.holds C ρ pre hx L := by
  rw [show hx.and (frow none 0 Ft.zero.got) = hx from frow_none hx] at h; exact h
theorem str_one {u : ByteArray} {l : List Value} (h : l = [.string u]) : ∀ v, v ∈ l → v.oneCell' = true := by subst h; exact one1
end
theorem pull_yes (nb : Nat) (a : Option Addr) (cap : Nat) (f : Ft) (w : World) (H : Blk w nb (f.cells a cap) 61) (h : f.slot ≠ 0) : Calls Try.prog 12 #[.pointer (some ⟨nb, 0, none⟩)] w (PureAt w (.tuple #[.int .i64 f.src, .agg (msgV 11 f.slot f.got.length (.slice none 0 0)), .bool true])) := by
  have := pull_any nb a cap f w H
  unfold pullV at this
  rw [if_neg h] at this
  exact this
theorem pull_no (nb : Nat) (a : Option Addr) (cap : Nat) (f : Ft) (w : World) (H : Blk w nb (f.cells a cap) 61) (h : f.slot = 0) : Calls Try.prog 12 #[.pointer (some ⟨nb, 0, none⟩)] w (PureAt w (.tuple #[.int .i64 0, .agg (msgV 0 0 0 (.slice none 0 0)), .bool false])) := by
  have := pull_any nb a cap f w H
  unfold pullV at this
  rw [if_pos h] at this
  exact this
theorem part_more {nb : Nat} {a : Option Addr} {cap : Nat} {f : Ft} {slot low : Int} {ad : Option Addr} {cd : Nat} {d : List Int} {w : World} (H : FetAt w nb a cap f) (Hd : Cells w ad (bcells d)) (hd : ∀ k, (HX.cl ad (bcells d)).F k → k ≠ nb ∧ ¬ (cap ≠ 0 ∧ abk a = some k)) (hgl : f.got.length ≤ 1000000) (hsz : 0 ≤ f.size ∧ f.size ≤ 1000000) (c1 : f.slot ≠ 0) (c2 : slot = f.slot) (c3 : low = f.got.length) (c4 : d ≠ []) (c5 : ((f.got ++ d).length : Int) < f.size) :
    Calls Try.prog 14 #[.pointer (some ⟨nb, 0, none⟩), .agg (msgV 12 slot low (.slice ad d.length cd))] w (FR w nb a cap ⟨f.src, f.slot, f.size, f.sum, f.got ++ d⟩ [] (fun v => .tuple #[v, .int .i64 0, .int .i64 0])) := by
  have hl : (f.got ++ d).length = f.got.length + d.length := List.length_append
  refine (part_good H Hd hd hgl hsz c1 c2 c3 c4 (by omega) (fun h => by omega)).mono fun e w' h => ?_
  rw [if_pos c5] at h; exact h
theorem part_last {nb : Nat} {a : Option Addr} {cap : Nat} {f : Ft} {slot low : Int} {ad : Option Addr} {cd : Nat} {d : List Int} {w : World} (H : FetAt w nb a cap f) (Hd : Cells w ad (bcells d)) (hd : ∀ k, (HX.cl ad (bcells d)).F k → k ≠ nb ∧ ¬ (cap ≠ 0 ∧ abk a = some k)) (hgl : f.got.length ≤ 1000000) (hsz : 0 ≤ f.size ∧ f.size ≤ 1000000) (c1 : f.slot ≠ 0) (c2 : slot = f.slot) (c3 : low = f.got.length) (c4 : d ≠ []) (c5 : ((f.got ++ d).length : Int) = f.size) (c6 : strOfNums (eightB (sumB (f.got ++ d))) = f.sum) :
    Calls Try.prog 14 #[.pointer (some ⟨nb, 0, none⟩), .agg (msgV 12 slot low (.slice ad d.length cd))] w (FR w nb a cap Ft.zero (f.got ++ d) (fun v => .tuple #[v, .int .i64 f.slot, .int .i64 0])) := by
  have hl : (f.got ++ d).length = f.got.length + d.length := List.length_append
  refine (part_good H Hd hd hgl hsz c1 c2 c3 c4 (by omega) (fun _ => c6)).mono fun e w' h => ?_
  rw [if_neg (by omega)] at h; exact h
/-- What lies in a piece beside is neither the fetch's block nor its row. -/
theorem data_off {C : Cfg} {m : Mem} {ρ : Env} {ids : List Nat} {w : World} {rest : HX} {a : Option Addr} {cap n : Nat} {g : List Int} {F : Nat → Prop} (hok : RowOk C a cap rest) (hf : Facts C m ρ ids (rest.and (frow a cap g)) w) (hn : n < m.hp.length) (hF : ∀ k, F k → rest.F k) : ∀ k, F k → k ≠ idAt ids n ∧ ¬ (cap ≠ 0 ∧ abk a = some k) :=
  fun k hk => ⟨fun e => (hf.sep k (.inl (hF k hk))).2 (e ▸ idAt_mem (hf.len ▸ hn)), fun q => (hok k q.1 q.2).2 (hF k hk)⟩
/-! ### The head -/
theorem list_eq {l : List Int} {n : Nat} (k : Nat) (h1 : l.length ≤ k + n) : l.take k ++ (l.drop k).take n = l := by
  rw [List.take_of_length_le (l := l.drop k) (by rw [List.length_drop]; omega), List.take_append_drop]
def zs : List Int := List.replicate 1500 0
theorem zs_len : zs.length = 1500 := List.length_replicate
theorem zs_cells : List.replicate 1500 (Value.int .u8 0) = bcells zs := by unfold zs bcells; rw [List.map_replicate]
def zp0 : List Int := pieceB zs 0
def zp1 : List Int := pieceB zs 1024
theorem zp0_eq : zp0 = zs.take 1024 := by
  unfold zp0 pieceB
  rw [zs_len, if_neg (by decide)]; rfl
theorem zp1_eq : zp1 = (zs.drop 1024).take 1024 := by
  unfold zp1 pieceB
  rw [zs_len, if_neg (by decide)]; rfl
theorem zp0_len : zp0.length = 1024 := by rw [zp0_eq, List.length_take, zs_len]; rfl
theorem zp1_len : zp1.length = 476 := by rw [zp1_eq, List.length_take, List.length_drop, zs_len]; rfl
theorem zp_all : zp0 ++ zp1 = zs := by rw [zp0_eq, zp1_eq]; exact list_eq 1024 (by rw [zs_len]; decide)
def zsum : ByteArray := strOfNums (eightB (sumB zs))
theorem zp0_of : pieceB zs 0 = zp0 := by unfold zp0; rfl
theorem zp1_of : pieceB zs 1024 = zp1 := by unfold zp1; rfl
attribute [irreducible] zs zp0 zp1 zsum
set_option maxHeartbeats 2000000 in
set_option maxRecDepth 100000 in
theorem thead_any (w : World) : Calls Try.prog 7 #[] w (PureAt w (.bool true)) := by
  refine calls_at (tab_ok _) Try.func7 rfl tTHead (ρ := ⟨[], [], [], [], []⟩) (ids := []) rfl (Facts.initP rfl oneNil) ?_
  refine node_newB 61 ⟨[0, 0, 0], [], [.string ⟨#[]⟩], [0, 0], [none]⟩ (fun w => fnew_any w) (fun _ => rfl) rfl (fun _ => rfl) rfl rfl rfl one1 ?_
  refine node_makeS Try.underlying22 info_byte rfl 1500 (fun _ => rfl) (fun _ => rfl) (by omega) (by unfold maxLen; omega) (fun _ _ => rfl) rfl rfl (fun _ => rfl) ?_
  intro iz hiW hiF
  rw [zs_cells]
  have zc : ∀ {w : World}, (HX.rw 1 5 (some ⟨iz, 0, none⟩) 1500 1500 (bcells zs)).X w → Cells w (some ⟨iz, 0, none⟩) (bcells zs) := fun h => rw_cells h
  refine node_newd (V := fun v => .agg (msgV 10 7 zs.length v)) (bs := eightB (sumB zs)) (fun a' c' => ⟨[10, 0, 0, 0, 0, 0, 7, (zs.length : Int), 0, 0, 0, 0, 0, 0, 0, 0, 0, 0, 0, 0, 0], [], [], [0, 0, 0, 0, 0, 0, 8, c'], [none, none, none, a']⟩) (fun ids w2 hp hf => ?_) (by intros; kernel_rfl) (by intros; kernel_rfl) (by intros; kernel_rfl) (by intros; kernel_rfl) (fun _ _ => oneNil) ?_
  · have := offer_any 7 (some ⟨iz, 0, none⟩) 1500 zs w2 (zc hf.x.2) (by rw [zs_len]; decide)
    rw [zs_len] at this ⊢
    exact this
  intro a1 c1 hc1 hn1
  refine br_f (show ((zs.length : Int) != 1500) = false by rw [zs_len]; rfl) (br_f rfl ?_)
  refine holds_frow0 ?_
  refine node_fet0 (f := Ft.zero) (f' := ⟨2, 7, zs.length, zsum, []⟩) (V := fun _ => .bool true) 0 (fun b => #[.pointer (some ⟨b, 0, none⟩), .int .i64 2, .agg (msgV 10 7 zs.length (.slice a1 8 c1)), .int .i64 5]) (fun a' cap' ai ci => ⟨[2, 7, (zs.length : Int)], [true], [.string zsum], [0, cap'], [a']⟩) rfl rfl (by intros; kernel_rfl) row_ok0 (by intros; kernel_rfl) (fun ids w2 hp hf HA => ?_) [.int .i64 (.var 24), .int .i64 (.var 25), .int .i64 (.var 26), .val 1, .sl 6 (.var 12) (.var 13)] (by intros; kernel_rfl) (by intros; kernel_rfl) (by intros; kernel_rfl) (by intros; kernel_rfl) (by intros; kernel_rfl) (fun _ _ _ _ => one1) ?_
  · have h8 := off_new (src := 2) (slot := 7) (low := zs.length) (hv := 5) (cd := c1) HA hf.x.1.2 (fun k hk => (data_off row_ok0 hf (show 0 < 2 by decide) (fun k hk => .inr hk) k hk).1) (by decide) (by rw [zs_len]; decide) (by rw [zs_len]; decide) rfl (by decide)
    rw [show strOfNums (eightB (sumB zs)) = zsum by unfold zsum; rfl] at h8
    exact h8
  intro a2 cap2 _ _ ok2
  refine br_f rfl ?_
  refine node_pull (vs := ⟨[2, 11, 0, 0, 0, 0, 0, 7, 0, 0, 0, 0, 0, 0, 0, 0, 0, 0, 0, 0, 0, 0], [true], [], [0, 0, 0, 0, 0, 0, 0, 0], [none, none, none, none]⟩) (f := ⟨2, 7, zs.length, zsum, []⟩) (a := a2) (cap := cap2) 0 rfl rfl (by intros; kernel_rfl) (fun nb w hb => pull_yes nb _ _ _ w hb (by decide)) (by intros; kernel_rfl) (by intros; kernel_rfl) (by intros; kernel_rfl) (by intros; kernel_rfl) (by intros; kernel_rfl) oneNil ?_
  refine node_newr (V := fun v => .tuple #[.agg (msgV 12 7 0 v), .bool true]) (bs := zp0) #[.int .i64 7, .slice (some ⟨iz, 0, none⟩) 1500 1500, .agg (msgV 11 7 0 (.slice none 0 0))] (fun a' c' => ⟨[12, 0, 0, 0, 0, 0, 7, 0, 0, 0, 0, 0, 0, 0, 0, 0, 0, 0, 0, 0, 0], [true], [], [0, 0, 0, 0, 0, 0, zp0.length, c'], [none, none, none, a']⟩) ok2 (by intros; kernel_rfl) (fun ids w2 hp hf => ?_) (by intros; kernel_rfl) (by intros; kernel_rfl) (by intros; kernel_rfl) (by intros; kernel_rfl) (fun _ _ => oneNil) ?_
  · have := answer_yes 7 0 (some ⟨iz, 0, none⟩) 1500 zs w2 (zc hf.x.1.1.2) (by rw [zs_len]; decide) (by rw [zs_len]; decide) (by rw [zp0_of]; intro e; have := zp0_len; rw [e] at this; cases this)
    rw [zs_len, zp0_of] at this
    exact this
  intro a3 c3 hc3 ok3
  refine node_fet0 (f := ⟨2, 7, zs.length, zsum, []⟩) (f' := ⟨2, 7, zs.length, zsum, zp0⟩) (V := fun v => .tuple #[v, .int .i64 0, .int .i64 0]) 0 (fun b => #[.pointer (some ⟨b, 0, none⟩), .agg (msgV 12 7 0 (.slice a3 zp0.length c3))]) (fun a' cap' ai ci => ⟨[2, 7, (zs.length : Int), 0, 0], [], [.string zsum], [zp0.length, cap', 0, ci], [a', ai]⟩) rfl rfl (by intros; kernel_rfl) ok3 (by intros; kernel_rfl) (fun ids w2 hp hf HA => ?_) [.int .i64 (.var 70), .int .i64 (.var 71), .int .i64 (.var 72), .val 2, .sl 15 (.var 30) (.var 31)] (by intros; kernel_rfl) (by intros; kernel_rfl) (by intros; kernel_rfl) (by intros; kernel_rfl) (by intros; kernel_rfl) (fun _ _ _ _ => one1) ?_
  · exact part_more (slot := 7) (low := 0) (cd := c3) (d := zp0) HA hf.x.1.2 (data_off ok3 hf (show 0 < 4 by decide) (fun k hk => .inr hk)) (Nat.zero_le _) (by rw [zs_len]; decide) (by decide) rfl rfl (by intro e; have := zp0_len; rw [e] at this; cases this) (by rw [List.nil_append, zp0_len, zs_len]; decide)
  intro a4 cap4 ai4 ci4 ok4
  refine node_pull (vs := ⟨[2, 11, 0, 0, 0, 0, 0, 7, (zp0.length : Int), 0, 0, 0, 0, 0, 0, 0, 0, 0, 0, 0, 0, 0], [true], [], [0, 0, 0, 0, 0, 0, 0, 0], [none, none, none, none]⟩) (f := ⟨2, 7, zs.length, zsum, zp0⟩) (a := a4) (cap := cap4) 0 rfl rfl (by intros; kernel_rfl) (fun nb w hb => pull_yes nb _ _ _ w hb (by decide)) (by intros; kernel_rfl) (by intros; kernel_rfl) (by intros; kernel_rfl) (by intros; kernel_rfl) (by intros; kernel_rfl) oneNil ?_
  refine node_newr (V := fun v => .tuple #[.agg (msgV 12 7 zp0.length v), .bool true]) (bs := zp1) #[.int .i64 7, .slice (some ⟨iz, 0, none⟩) 1500 1500, .agg (msgV 11 7 zp0.length (.slice none 0 0))] (fun a' c' => ⟨[12, 0, 0, 0, 0, 0, 7, (zp0.length : Int), 0, 0, 0, 0, 0, 0, 0, 0, 0, 0, 0, 0, 0], [true], [], [0, 0, 0, 0, 0, 0, zp1.length, c'], [none, none, none, a']⟩) ok4 (by intros; kernel_rfl) (fun ids w2 hp hf => ?_) (by intros; kernel_rfl) (by intros; kernel_rfl) (by intros; kernel_rfl) (by intros; kernel_rfl) (fun _ _ => oneNil) ?_
  · have e : pieceB zs (zp0.length : Int) = zp1 := by rw [zp0_len]; exact zp1_of
    have := answer_yes 7 zp0.length (some ⟨iz, 0, none⟩) 1500 zs w2 (zc hf.x.1.1.1.2) (by rw [zs_len]; decide) (by rw [zs_len]; decide) (by rw [e]; intro e; have := zp1_len; rw [e] at this; cases this)
    rw [zs_len, e] at this
    exact this
  intro a5 c5 hc5 ok5
  refine node_fetr (f := ⟨2, 7, zs.length, zsum, zp0⟩) (f' := Ft.zero) (img := zp0 ++ zp1) (V := fun v => .tuple #[v, .int .i64 7, .int .i64 0]) 0 (fun b => #[.pointer (some ⟨b, 0, none⟩), .agg (msgV 12 7 zp0.length (.slice a5 zp1.length c5))]) (fun a' cap' ai ci => ⟨[0, 0, 0, 7, 0], [], [.string ⟨#[]⟩], [0, cap', (zp0 ++ zp1).length, ci], [a', ai]⟩) rfl rfl (by intros; kernel_rfl) ok5 (by intros; kernel_rfl) (fun ids w2 hp hf HA => ?_) [.int .i64 (.var 118), .int .i64 (.var 119), .int .i64 (.var 120), .val 3, .sl 25 (.var 50) (.var 51)] (by intros; kernel_rfl) (by intros; kernel_rfl) (by intros; kernel_rfl) (by intros; kernel_rfl) (by intros; kernel_rfl) (fun _ _ _ _ => one1) ?_
  · exact part_last (slot := 7) (low := zp0.length) (cd := c5) (d := zp1) HA hf.x.1.2 (data_off ok5 hf (show 0 < 6 by decide) (fun k hk => .inr hk)) (by rw [zp0_len]; decide) (by rw [zs_len]; decide) (by decide) rfl rfl (by intro e; have := zp1_len; rw [e] at this; cases this) (by show (((zp0 ++ zp1).length : Nat) : Int) = ((zs.length : Nat) : Int); rw [zp_all]) (by show _ = zsum; rw [zp_all]; unfold zsum; rfl)
  intro a6 cap6 ai6 ci6 ok6
  refine br_t rfl (br_t rfl (br_t rfl (br_t rfl (br_t rfl (br_t (show ((zp0.length : Int) == 1024) = true by rw [zp0_len]; rfl) (br_t rfl (br_t rfl ?_)))))))
  refine node_pure ⟨[], [decide (zp0 ++ zp1 = zs)], [], [], []⟩ rfl rfl rfl oneNil (fun ids w2 hp hf => ?_) (pure_done fun _ => ?_)
  · have := sameb_any ai6 ci6 (zp0 ++ zp1) (some ⟨iz, 0, none⟩) 1500 zs w2 hf.x.1.2 (zc hf.x.1.1.1.1.1.2) (by rw [zp_all, zs_len]; decide)
    rw [zs_len] at this
    exact this
  · show Value.bool (decide (zp0 ++ zp1 = zs)) = _
    rw [decide_eq_true zp_all]
end Go.Proofs.Ytgphmdccmaibmaa
