/- Part 13 of the texts of a proof about the given program: what the statement's proof needs of them. -/
import Derived.Test.YtadgaefmoobcoaaKMsgEncodes12
namespace Go.Proofs.Ytadgaefmoobcoaa
open Go.ChangeShapes Go.WideShapes Go.ChangeAt Go.RowKit Go.Syn Go.Eng
set_option linter.unusedVariables false
set_option linter.unusedSimpArgs false
set_option maxRecDepth 100000
def rcells (a : Option Addr) (cap : Nat) (bs : List Int) (ix : Nat) (bad : Int) : List Value := [.slice a bs.length cap, .int .i64 (ix : Int), .int .i64 bad]
structure RdAt (w : World) (nb : Nat) (a : Option Addr) (cap : Nat) (bs : List Int) (ix : Nat) (bad : Int) : Prop where
  blk : Blk w nb (rcells a cap bs ix bad) 128
  mem : Cells w a (bcells bs)
  ne : bs ≠ [] → Go.Syn.blk a ≠ nb
  byt : Byt bs
  len : bs.length ≤ 140737488355328
  cap : bs.length ≤ cap
  ix : ix ≤ bs.length
def ixN (bs : List Int) (ix : Nat) (bad : Int) : Nat := bs.length - (readN (bs.drop ix) bad).1.length
theorem getD_blk {a : Option Addr} (h : a.isSome = true) : (a.getD ⟨0, 0, none⟩).block = blk a := by
  cases a with
  | none => cases h
  | some ad => rfl
theorem sliA_some {a : Option Addr} {l cap sz : Nat} (h : a.isSome = true) : (sliA a l cap sz).isSome = true := by
  unfold sliA
  split
  · exact h
  · cases a with
    | none => cases h
    | some ad => rfl
theorem ixN_le (bs : List Int) (ix : Nat) (bad : Int) : ixN bs ix bad ≤ bs.length := Nat.sub_le _ _
theorem readN_u64 {l : List Int} (hb : Byt l) (bad : Int) : (readN l bad).2.2 < 2 ^ 64 := by
  by_cases h : (readN l bad).2.1 = 0
  · exact (readN_ok hb h).2.2
  · unfold readN at *
    by_cases h0 : bad = 0
    · rw [if_neg (by simpa using h0)] at *
      cases l with
      | nil => decide
      | cons n r =>
        simp only at *
        by_cases h1 : 8 < n
        · rw [if_pos h1]; show 0 < 2 ^ 64; decide
        · rw [if_neg h1] at *
          by_cases h2 : r.length < n.toNat
          · rw [if_pos h2]; show 0 < 2 ^ 64; decide
          · rw [if_neg h2] at *
            by_cases h3 : nlen (valB (r.take n.toNat)) ≠ n.toNat
            · rw [if_pos h3]; show 0 < 2 ^ 64; decide
            · rw [if_neg h3] at h; exact absurd rfl h
    · rw [if_pos h0]; show 0 < 2 ^ 64; decide
theorem or_byte {u : Nat} {c : Int} (hu : u < 2 ^ 56) (hc : 0 ≤ c ∧ c < 256) : ifn .or .u64 (ifn .shl .u64 (u : Int) 8) (IntKind.u64.wrap c) = ((256 * u + c.toNat : Nat) : Int) := by
  have wr : ∀ x : Int, IntKind.u64.wrap x = x % 18446744073709551616 := fun x => rfl
  have e1 : ifn .shl .u64 (u : Int) 8 = ((256 * u : Nat) : Int) := by
    show IntKind.u64.wrap ((u : Int) * 256) = _
    rw [wr]; omega
  have e2 : IntKind.u64.wrap c = (c.toNat : Int) := by rw [wr]; omega
  rw [e1, e2]
  show IntKind.u64.wrap ((BitVec.ofInt 64 ((256 * u : Nat) : Int) ||| BitVec.ofInt 64 (c.toNat : Int)).toNat : Int) = _
  have e3 : (BitVec.ofInt 64 ((256 * u : Nat) : Int) ||| BitVec.ofInt 64 (c.toNat : Int)).toNat = 256 * u + c.toNat := by
    rw [BitVec.toNat_or]
    have h1 : (BitVec.ofInt 64 ((256 * u : Nat) : Int)).toNat = 256 * u := by simp only [BitVec.toNat_ofInt]; omega
    have h2 : (BitVec.ofInt 64 (c.toNat : Int)).toNat = c.toNat := by simp only [BitVec.toNat_ofInt]; omega
    rw [h1, h2]
    exact (Nat.two_pow_add_eq_or_of_lt (i := 8) (show c.toNat < 2 ^ 8 by omega) u).symm
  rw [e3, wr]; omega
theorem valB_step {ds : List Int} {k : Nat} {c : Int} (h : ds[k]? = some c) : valB (ds.take (k + 1)) = 256 * valB (ds.take k) + c.toNat := by
  rw [List.take_add_one, h]
  exact valB_snoc _ _
def RnI (ds : List Int) (vs : Vals) (hx : HX) : Prop := ∃ k : Nat, k ≤ ds.length ∧ vs = ⟨[(valB (ds.take k) : Int), (k : Int)], [], [], [], []⟩ ∧ hx = HX.nil
theorem rnum_any (nb : Nat) (a : Option Addr) (cap : Nat) (bs : List Int) (ix : Nat) (bad : Int) (w : World) (H : RdAt w nb a cap bs ix bad) :
    Calls Try.prog 81 #[.pointer (some ⟨nb, 0, none⟩)] w (At1 w nb 128 (.int .u64 ((readN (bs.drop ix) bad).2.2 : Int)) (rcells a cap bs (ixN bs ix bad) (readN (bs.drop ix) bad).2.1)) := by
  have hlen := H.len
  have hix := H.ix
  have hcap := H.cap
  have done : ∀ {v : SV} {ρ : Env} {cs : List LV} {r : List (Nat × List LV)} {n : Cnt} {hx : HX} {L : Stack} (l' : List Int) (bad' : Int) (u' : Nat), readN (bs.drop ix) bad = (l', bad', u') → l'.length ≤ bs.length → (∀ ids, v.den ρ ids = .int .u64 (u' : Int)) → (∀ ids, cellsDen ρ ids cs = rcells a cap bs (bs.length - l'.length) bad') →
      (Tree.done v ⟨(128, cs) :: r, n⟩).holds ⟨Try.prog, w, fun x => x = nb, At1 w nb 128 (.int .u64 ((readN (bs.drop ix) bad).2.2 : Int)) (rcells a cap bs (ixN bs ix bad) (readN (bs.drop ix) bad).2.1)⟩ ρ [nb] hx L := fun l' bad' u' e hl hv hc => by
    unfold ixN
    rw [e]
    exact at1_done hv hc
  have hdl : (bs.drop ix).length = bs.length - ix := List.length_drop
  have hself : bs.length - (bs.drop ix).length = ix := by rw [hdl]; omega
  refine calls_at (tab_ok _) Try.func81 rfl tRNum (ρ := ⟨[(ix : Int), bad], [], [], [bs.length, cap], [a]⟩) (ids := [nb]) (hx := HX.nil) (M := fun x => x = nb) rfl (Facts.initx rfl oneNil H.blk rfl rfl trivial (fun k hk => hk.elim)) ?_
  by_cases h0 : bad = 0
  · subst h0
    refine br_f rfl ?_
    by_cases h1 : bs.length ≤ ix
    · refine br_t (show decide ((ix : Int) ≥ (bs.length : Int)) = true from decide_eq_true (by omega)) ?_
      have e : bs.drop ix = [] := List.drop_of_length_le h1
      exact done (bs.drop ix) 10 0 (by rw [e]; rfl) (by rw [hdl]; omega) (fun _ => rfl) (fun _ => by rw [hself]; rfl)
    · refine br_f (show decide ((ix : Int) ≥ (bs.length : Int)) = false from decide_eq_false (by omega)) ?_
      obtain ⟨n, hn⟩ : ∃ n, bs[ix]? = some n := ⟨_, List.getElem?_eq_getElem (by omega)⟩
      have hnb := H.byt n (List.mem_of_getElem? hn)
      have hbne : bs ≠ [] := fun e => by subst e; simp at hn
      have hdr : bs.drop ix = n :: bs.drop (ix + 1) := by
        have := List.drop_eq_getElem_cons (show ix < bs.length by omega)
        rw [this]
        rw [List.getElem?_eq_getElem (by omega)] at hn
        rw [Option.some.inj hn]
      obtain ⟨s1, c1⟩ := b_elt H.mem hn
      have hNb : (a.getD ⟨0, 0, none⟩).block ≠ nb := by
        have h1 := (H.mem (by rw [bcells_len]; exact List.length_pos_iff.2 hbne)).1
        have h2 := H.ne hbne
        cases a with
        | none => simp [PlainA] at h1
        | some ad => exact h2
      refine need_i ⟨s1, (show (0 : Int) ≤ ix by omega), (show (ix : Int) < bs.length by omega)⟩ ?_
      refine ⟨⟨[n], [], [], [], []⟩, fun ids => c1 _ hNb, ⟨rfl, oneNil⟩, ?_⟩
      have hnw : IntKind.i64.wrap n = n := wrap_i64 (by omega)
      by_cases h8 : 8 < n
      · refine br_t (show decide (IntKind.i64.wrap n > 8) = true by rw [hnw]; exact decide_eq_true h8) ?_
        exact done (bs.drop ix) 11 0 (by rw [hdr]; unfold readN; rw [if_neg (by simp)]; dsimp only; rw [if_pos h8]) (by rw [hdl]; omega) (fun _ => rfl) (fun _ => by rw [hself]; rfl)
      · refine br_f (show decide (IntKind.i64.wrap n > 8) = false by rw [hnw]; exact decide_eq_false (by omega)) ?_
        have hsub : ifn .sub .i64 (ifn .sub .i64 (bs.length : Int) (ix : Int)) 1 = (bs.length : Int) - ix - 1 := by
          show IntKind.i64.wrap (IntKind.i64.wrap ((bs.length : Int) - ix) - 1) = _
          rw [wrap_i64 (x := (bs.length : Int) - ix) (by omega), wrap_i64 (by omega)]
        by_cases hs : (bs.drop (ix + 1)).length < n.toNat
        · have hs2 := hs
          rw [List.length_drop] at hs2
          refine br_t (show decide (IntKind.i64.wrap n > ifn .sub .i64 (ifn .sub .i64 (bs.length : Int) (ix : Int)) 1) = true by rw [hnw, hsub]; exact decide_eq_true (by omega)) ?_
          exact done (bs.drop ix) 10 0 (by rw [hdr]; unfold readN; rw [if_neg (by simp)]; dsimp only; rw [if_neg h8, if_pos hs]) (by rw [hdl]; omega) (fun _ => rfl) (fun _ => by rw [hself]; rfl)
        · have hs2 := hs
          rw [List.length_drop] at hs2
          refine br_f (show decide (IntKind.i64.wrap n > ifn .sub .i64 (ifn .sub .i64 (bs.length : Int) (ix : Int)) 1) = false by rw [hnw, hsub]; exact decide_eq_false (by omega)) ?_
          obtain ⟨c, rfl⟩ : ∃ c : Nat, n = (c : Int) := ⟨n.toNat, by omega⟩
          rw [Int.toNat_natCast] at hs hs2
          have hw1 : IntKind.i64.wrap ((ix : Int) + 1) = ((ix + 1 : Nat) : Int) := by rw [wrap_i64 (by omega)]; omega
          have hw2 : IntKind.i64.wrap (IntKind.i64.wrap ((ix : Int) + 1) + IntKind.i64.wrap (c : Int)) = ((ix + 1 + c : Nat) : Int) := by rw [hw1, hnw, wrap_i64 (by omega)]; omega
          obtain ⟨ds, hds⟩ : ∃ ds, ds = (bs.drop (ix + 1)).take c := ⟨_, rfl⟩
          have hdsl : ds.length = c := by rw [hds, List.length_take, List.length_drop]; omega
          have hdsb : Byt ds := fun b q => H.byt b (List.mem_of_mem_drop (List.mem_of_mem_take (hds ▸ q)))
          have hdc : ix + 1 + c - (ix + 1) = c := by omega
          have hu2 : ix + 1 + c ≤ bs.length := by omega
          have hu3 : ix + 1 + c ≤ cap := Nat.le_trans hu2 hcap
          refine node_span (l := ix + 1) (u := ix + 1 + c) a Try.underlying35 (by kernel_rfl) info_byte (fun _ => rfl) (fun _ => ?_) (fun _ => ?_) (by omega) hu3 (fun _ => rfl) rfl rfl rfl ?_
          · show Value.int .i64 (IntKind.i64.wrap ((ix : Int) + 1)) = _
            rw [hw1]
          · show Value.int .i64 (IntKind.i64.wrap (IntKind.i64.wrap ((ix : Int) + 1) + IntKind.i64.wrap (c : Int))) = _
            rw [hw2]
          rw [hdc]
          have hcl : Cells w (sliA a (ix + 1) cap 1) (bcells ds) := by
            have := sli_cells H.mem (ix + 1) c cap 1 (by rw [bcells_len]; omega) (by rw [bcells_len]; omega) (by decide)
            rw [Nat.mul_one, bcells_sub] at this
            rw [hds]; exact this
          have hcne : ∀ N : Nat → Prop, (N = fun x => x = nb) → ¬ N ((sliA a (ix + 1) cap 1).getD ⟨0, 0, none⟩).block := fun N hN => by
            rw [hN]
            intro e
            have h3 := sliA_some (l := ix + 1) (cap := cap) (sz := 1) s1
            rw [getD_blk h3, blk_sliA] at e
            exact H.ne hbne e
          refine loop_i (RnI ds) (fun vs => ds.length - (vs.i.getD 1 0).toNat) (fun ids w2 hp hf => ⟨HX.nil, HXok.none _ _, 0, Nat.zero_le _, rfl, rfl⟩) ?_
          rintro vs hx' hcnt ⟨k, hk1, rfl, rfl⟩
          by_cases hk : k < ds.length
          · refine br_t (show decide ((k : Int) < (c : Int)) = true from decide_eq_true (by omega)) ?_
            obtain ⟨d, hd⟩ : ∃ d, ds[k]? = some d := ⟨_, List.getElem?_eq_getElem hk⟩
            have hdb := hdsb d (List.mem_of_getElem? hd)
            obtain ⟨s2, c2⟩ := b_elt hcl hd
            refine need_i ⟨s2, (show (0 : Int) ≤ k by omega), (show (k : Int) < c by omega)⟩ ?_
            refine ⟨⟨[d], [], [], [], []⟩, fun ids => c2 _ (hcne _ rfl), ⟨rfl, oneNil⟩, ?_⟩
            intro ids w2 hp hf
            have hv : valB (ds.take k) < 2 ^ 56 := by
              have h1 := valB_lt (ds := ds.take k) (fun b q => hdsb b (List.mem_of_mem_take q))
              rw [List.length_take, Nat.min_eq_left (by omega)] at h1
              have h2 : (256 : Nat) ^ k ≤ 256 ^ 7 := Nat.pow_le_pow_right (by decide) (by omega)
              exact Nat.lt_of_lt_of_le h1 (by simpa using h2)
            have hwk : IntKind.i64.wrap ((k : Int) + 1) = ((k + 1 : Nat) : Int) := by rw [wrap_i64 (by omega)]; omega
            refine ⟨HX.nil, HXok.none _ _, _, rfl, ⟨k + 1, by omega, ?_, rfl⟩, ?_⟩
            · rw [valB_step hd, ← or_byte hv hdb, ← hwk]; rfl
            · show ds.length - (IntKind.i64.wrap ((k : Int) + 1)).toNat < ds.length - ((k : Int)).toNat
              rw [hwk]; omega
          · refine br_f (show decide ((k : Int) < (c : Int)) = false from decide_eq_false (by omega)) ?_
            obtain rfl : k = ds.length := by omega
            rw [List.take_length]
            have hv64 : valB ds < 2 ^ 64 := by
              have h1 := valB_lt hdsb
              have h2 : (256 : Nat) ^ ds.length ≤ 256 ^ 8 := Nat.pow_le_pow_right (by decide) (by omega)
              exact Nat.lt_of_lt_of_le h1 (by simpa using h2)
            refine node_val ⟨[((nlen (valB ds) + 1 : Nat) : Int)], [], [], [], []⟩ (fun w => size_any hv64 w) (fun _ => rfl) (fun _ => rfl) rfl rfl rfl oneNil ?_
            have hcw : ifn .add .i64 (IntKind.i64.wrap (c : Int)) 1 = ((c + 1 : Nat) : Int) := by
              show IntKind.i64.wrap (IntKind.i64.wrap (c : Int) + 1) = _
              rw [hnw, wrap_i64 (by omega)]; omega
            have hrd : ∀ q : Prop, readN (bs.drop ix) 0 = (if nlen (valB ds) ≠ c then (bs.drop ix, 11, 0) else ((bs.drop (ix + 1)).drop c, 0, valB ds)) := fun _ => by
              rw [hdr]; unfold readN; rw [if_neg (by simp)]; dsimp only
              rw [Int.toNat_natCast, if_neg h8, if_neg hs, ← hds]
            have hrd := hrd True
            by_cases hz : nlen (valB ds) = c
            · refine br_f (show (((nlen (valB ds) + 1 : Nat) : Int) != ifn .add .i64 (IntKind.i64.wrap (c : Int)) 1) = false by rw [hcw, hz]; simp) ?_
              rw [if_neg (by simpa using hz), List.drop_drop] at hrd
              refine done _ 0 (valB ds) hrd (by rw [List.length_drop]; omega) (fun _ => rfl) (fun _ => ?_)
              show [Value.slice a bs.length cap, .int .i64 (IntKind.i64.wrap ((ix : Int) + ifn .add .i64 (IntKind.i64.wrap (c : Int)) 1)), .int .i64 0] = _
              rw [hcw, wrap_i64 (by omega)]
              unfold rcells
              rw [List.length_drop]
              congr 3; omega
            · refine br_t (show (((nlen (valB ds) + 1 : Nat) : Int) != ifn .add .i64 (IntKind.i64.wrap (c : Int)) 1) = true by rw [hcw]; simp only [bne_iff_ne]; omega) ?_
              rw [if_pos hz] at hrd
              exact done (bs.drop ix) 11 0 hrd (by rw [hdl]; omega) (fun _ => rfl) (fun _ => by rw [hself]; rfl)
  · refine br_t (show (bad != 0) = true by simpa using h0) ?_
    exact done (bs.drop ix) bad 0 (by unfold readN; rw [if_pos h0]) (by rw [hdl]; omega) (fun _ => rfl) (fun _ => by rw [hself]; rfl)
end Go.Proofs.Ytadgaefmoobcoaa

namespace Go.Proofs.Ytadgaefmoobcoaa
open Go.ChangeShapes Go.WideShapes Go.ChangeAt Go.RowKit Go.Syn Go.Eng
set_option linter.unusedVariables false
set_option linter.unusedSimpArgs false
set_option maxRecDepth 100000
section
variable {C : Cfg} {ρ : Env} {pre : List Nat} {hx : HX} {L : Stack} {m m' : Mem} {args : List SV} {r : SV} {t : Tree} {a : Option Addr} {cap : Nat} {bs : List Int} {ix ix' : Nat} {bad bad' : Int}
structure RdOk (hx : HX) (a : Option Addr) (cap : Nat) (bs : List Int) : Prop where
  cl : ∀ w, hx.X w → Cells w a (bcells bs)
  fr : ∀ k, (HX.cl a (bcells bs)).F k → hx.F k
  byt : Byt bs
  len : bs.length ≤ 140737488355328
  cap : bs.length ≤ cap
theorem rd_at {ids : List Nat} {w : World} {cs : List LV} (n : Nat) (hok : RdOk hx a cap bs) (hix : ix ≤ bs.length) (hf : Facts C m ρ ids hx w) (hn : m.hp[n]? = some (128, cs)) (hcs : ∀ ids, cellsDen ρ ids cs = rcells a cap bs ix bad) : RdAt w (idAt ids n) a cap bs ix bad := by
  have hlt : n < m.hp.length := by
    rcases Nat.lt_or_ge n m.hp.length with q | q
    · exact q
    · rw [List.getElem?_eq_none q] at hn; cases hn
  have hmem := idAt_mem (ids := ids) (n := n) (hf.len ▸ hlt)
  have hb := hf.blk n _ _ hn
  rw [hcs] at hb
  exact ⟨hb, hok.cl w hf.x, fun hne e => (hf.sep _ (hok.fr _ ⟨fun q => hne (bcells_nil.1 q), rfl⟩)).2 (e ▸ hmem), hok.byt, hok.len, hok.cap, hix⟩
theorem node_rd {fn : Nat} {cs : List LV} {V : Value} (n : Nat) (vs : Vals) (AS : Nat → Array Value) (hok : RdOk hx a cap bs) (hix : ix ≤ bs.length) (hP : C.P = Try.prog) (hn : m.hp[n]? = some (128, cs)) (hcs : ∀ ids, cellsDen ρ ids cs = rcells a cap bs ix bad)
    (hargs : ∀ ids, (args.map (SV.den ρ ids)).toArray = AS (idAt ids n)) (hcall : ∀ w b, RdAt w b a cap bs ix bad → Calls Try.prog fn (AS b) w (At1 w b 128 V (rcells a cap bs ix' bad')))
    (cs' : List LV) (hhp : m'.hp = m.hp.set n (128, cs')) (hcs' : ∀ ids, cellsDen (ρ.add vs) ids cs' = rcells a cap bs ix' bad') (hr : ∀ ids, r.den (ρ.add vs) ids = V) (hfit : hpFits m.c m.hp.length m.hp = true) (hc : (ρ.add vs).cnt = m'.c) (h1 : ∀ v, v ∈ vs.v → v.oneCell' = true)
    (h : t.holds C (ρ.add vs) pre hx L) : (Tree.call fn args m r m' t).holds C ρ pre hx L := by
  refine node_method n 128 cs cs' vs hn hhp hfit hc h1 (fun ids w hp hf hb => ?_) h
  rw [hP, hargs, hr, hcs']
  exact (hcall w _ (rd_at n hok hix hf hn hcs)).mono fun e w' h => ⟨h.1, h.2.1, h.2.2⟩
end
theorem RdAt.ok {w : World} {nb : Nat} {a : Option Addr} {cap : Nat} {bs : List Int} {ix : Nat} {bad : Int} (H : RdAt w nb a cap bs ix bad) : RdOk (HX.cl a (bcells bs)) a cap bs := ⟨fun _ h => h, fun _ h => h, H.byt, H.len, H.cap⟩
theorem RdAt.sepc {w : World} {nb : Nat} {a : Option Addr} {cap : Nat} {bs : List Int} {ix : Nat} {bad : Int} (H : RdAt w nb a cap bs ix bad) : ∀ k, (HX.cl a (bcells bs)).F k → k < w.heap.size ∧ k ≠ nb := fun k hk => ⟨cl_sep H.mem k hk, fun e => by
  obtain ⟨h1, h2⟩ := hk
  exact H.ne (fun q => h1 (by rw [q]; rfl)) (h2 ▸ e)⟩
theorem rint_any (nb : Nat) (a : Option Addr) (cap : Nat) (bs : List Int) (ix : Nat) (bad : Int) (w : World) (H : RdAt w nb a cap bs ix bad) :
    Calls Try.prog 84 #[.pointer (some ⟨nb, 0, none⟩)] w (At1 w nb 128 (.int .i64 (unfoldN (readN (bs.drop ix) bad).2.2)) (rcells a cap bs (ixN bs ix bad) (readN (bs.drop ix) bad).2.1)) := by
  have hu := readN_u64 (l := bs.drop ix) (fun b q => H.byt b (List.mem_of_mem_drop q)) bad
  refine calls_at (tab_ok _) Try.func84 rfl tRInt (ρ := ⟨[(ix : Int), bad], [], [], [bs.length, cap], [a]⟩) (ids := [nb]) (hx := HX.cl a (bcells bs)) (M := fun x => x = nb) rfl (Facts.initx rfl oneNil H.blk rfl rfl H.mem H.sepc) ?_
  refine node_rd 0 ⟨[(ixN bs ix bad : Int), (readN (bs.drop ix) bad).2.1, ((readN (bs.drop ix) bad).2.2 : Int)], [], [], [bs.length, cap], [a]⟩ (fun b => #[.pointer (some ⟨b, 0, none⟩)]) H.ok H.ix rfl rfl (fun _ => rfl) (fun _ => rfl) (fun w b h => rnum_any b a cap bs ix bad w h) [.sl 1 (.var 2) (.var 3), .int .i64 (.var 2), .int .i64 (.var 3)] rfl (fun _ => rfl) (fun _ => rfl) rfl rfl oneNil ?_
  refine node_val ⟨[unfoldN (readN (bs.drop ix) bad).2.2], [], [], [], []⟩ (fun w => unfold_any hu w) (fun _ => rfl) (fun _ => rfl) rfl rfl rfl oneNil ?_
  exact at1_done (fun _ => rfl) (fun _ => rfl)
theorem rcount_any (nb : Nat) (a : Option Addr) (cap : Nat) (bs : List Int) (ix : Nat) (bad most : Int) (hm : I64 most) (w : World) (H : RdAt w nb a cap bs ix bad) :
    Calls Try.prog 59 #[.pointer (some ⟨nb, 0, none⟩), .int .i64 most] w (At1 w nb 128 (.int .i64 ((readC most (bs.drop ix) bad).2.2 : Int)) (rcells a cap bs (ixN bs ix bad) (readC most (bs.drop ix) bad).2.1)) := by
  have hu := readN_u64 (l := bs.drop ix) (fun b q => H.byt b (List.mem_of_mem_drop q)) bad
  unfold I64 at hm
  refine calls_at (tab_ok _) Try.func59 rfl tRCount (ρ := ⟨[(ix : Int), bad, most], [], [], [bs.length, cap], [a]⟩) (ids := [nb]) (hx := HX.cl a (bcells bs)) (M := fun x => x = nb) rfl (Facts.initx rfl oneNil H.blk rfl rfl H.mem H.sepc) ?_
  refine node_rd 0 ⟨[(ixN bs ix bad : Int), (readN (bs.drop ix) bad).2.1, ((readN (bs.drop ix) bad).2.2 : Int)], [], [], [bs.length, cap], [a]⟩ (fun b => #[.pointer (some ⟨b, 0, none⟩)]) H.ok H.ix rfl rfl (fun _ => rfl) (fun _ => rfl) (fun w b h => rnum_any b a cap bs ix bad w h) [.sl 1 (.var 2) (.var 3), .int .i64 (.var 3), .int .i64 (.var 4)] rfl (fun _ => rfl) (fun _ => rfl) rfl rfl oneNil ?_
  have hw : IntKind.u64.wrap (max 0 most) = ((max 0 most).toNat : Int) := by
    rw [IntWalk.u64_in _ (by omega)]; omega
  by_cases hc : (max 0 most).toNat < (readN (bs.drop ix) bad).2.2
  · refine br_t (show decide (((readN (bs.drop ix) bad).2.2 : Int) > IntKind.u64.wrap (max 0 most)) = true by rw [hw]; exact decide_eq_true (by omega)) ?_
    have e : readC most (bs.drop ix) bad = ((readN (bs.drop ix) bad).1, 12, 0) := by unfold readC; dsimp only; rw [if_pos hc]
    rw [e]
    exact at1_done (fun _ => rfl) (fun _ => rfl)
  · refine br_f (show decide (((readN (bs.drop ix) bad).2.2 : Int) > IntKind.u64.wrap (max 0 most)) = false by rw [hw]; exact decide_eq_false (by omega)) ?_
    have e : readC most (bs.drop ix) bad = readN (bs.drop ix) bad := by unfold readC; dsimp only; rw [if_neg hc]
    rw [e]
    refine at1_done (fun _ => ?_) (fun _ => rfl)
    show Value.int .i64 (IntKind.i64.wrap ((readN (bs.drop ix) bad).2.2 : Int)) = _
    rw [wrap_i64 (by omega)]
theorem rerr_any (nb : Nat) (a : Option Addr) (cap : Nat) (bs : List Int) (ix : Nat) (bad : Int) (w : World) (H : Blk w nb (rcells a cap bs ix bad) 128) : Calls Try.prog 60 #[.pointer (some ⟨nb, 0, none⟩)] w (PureAt w (.int .i64 bad)) := by
  refine calls_at (tab_ok _) Try.func60 rfl tRErr (ρ := ⟨[(ix : Int), bad], [], [], [bs.length, cap], [a]⟩) (ids := [nb]) (hx := HX.nil) (M := fun x => x = nb) rfl (Facts.initx rfl oneNil H rfl rfl trivial (fun k hk => hk.elim)) ?_
  intro ids w2 hp hf
  have e0 := hf.blkAt 0 rfl
  rw [idAt0 hp] at e0
  exact ⟨rfl, (hf.chg.same (e0.trans H.symm)).below⟩
def doneB (n ix : Nat) (bad : Int) : Int := if bad = 0 ∧ ix < n then 13 else bad
theorem rdone_any (nb : Nat) (a : Option Addr) (cap : Nat) (bs : List Int) (ix : Nat) (bad : Int) (w : World) (H : Blk w nb (rcells a cap bs ix bad) 128) : Calls Try.prog 62 #[.pointer (some ⟨nb, 0, none⟩)] w (At1 w nb 128 (.int .i64 (doneB bs.length ix bad)) (rcells a cap bs ix (doneB bs.length ix bad))) := by
  refine calls_at (tab_ok _) Try.func62 rfl tRDone (ρ := ⟨[(ix : Int), bad], [], [], [bs.length, cap], [a]⟩) (ids := [nb]) (hx := HX.nil) (M := fun x => x = nb) rfl (Facts.initx rfl oneNil H rfl rfl trivial (fun k hk => hk.elim)) ?_
  have step : ∀ {m m' : Mem} {ρ : Env} {cs : List LV} {t : Tree} {L : Stack} {r : SV} (bad' : Int), m.hp[0]? = some (128, cs) → (∀ ids, cellsDen ρ ids cs = rcells a cap bs ix bad') → m'.hp = m.hp → hpFits m.c m.hp.length m.hp = true → (ρ.add ⟨[bad'], [], [], [], []⟩).cnt = m'.c → (∀ ids, r.den (ρ.add ⟨[bad'], [], [], [], []⟩) ids = .int .i64 bad') → t.holds ⟨Try.prog, w, fun x => x = nb, At1 w nb 128 (.int .i64 (doneB bs.length ix bad)) (rcells a cap bs ix (doneB bs.length ix bad))⟩ (ρ.add ⟨[bad'], [], [], [], []⟩) [nb] HX.nil L →
      (Tree.call 60 [.lf (.ptr 0 0)] m r m' t).holds ⟨Try.prog, w, fun x => x = nb, At1 w nb 128 (.int .i64 (doneB bs.length ix bad)) (rcells a cap bs ix (doneB bs.length ix bad))⟩ ρ [nb] HX.nil L := by
    intro m m' ρ cs t L r bad' hn hcs hhp hfit hc hr h
    refine node_pure ⟨[bad'], [], [], [], []⟩ hhp hfit hc oneNil (fun ids w2 hp hf => ?_) h
    have hb := hf.blk 0 _ _ hn
    rw [hcs] at hb
    rw [hr]
    exact rerr_any (idAt ids 0) a cap bs ix bad' w2 hb
  by_cases h0 : bad = 0
  · subst h0
    refine br_t rfl ?_
    by_cases h1 : ix < bs.length
    · refine br_t (show decide ((ix : Int) < (bs.length : Int)) = true from decide_eq_true (by omega)) ?_
      have e : doneB bs.length ix 0 = 13 := if_pos ⟨rfl, h1⟩
      rw [e] at step ⊢
      exact step 13 rfl (fun _ => rfl) rfl rfl rfl (fun _ => rfl) (at1_done (fun _ => rfl) (fun _ => rfl))
    · refine br_f (show decide ((ix : Int) < (bs.length : Int)) = false from decide_eq_false (by omega)) ?_
      have e : doneB bs.length ix 0 = 0 := if_neg (fun q => h1 q.2)
      rw [e] at step ⊢
      exact step 0 rfl (fun _ => rfl) rfl rfl rfl (fun _ => rfl) (at1_done (fun _ => rfl) (fun _ => rfl))
  · refine br_f (show (bad == 0) = false by simpa using h0) ?_
    have e : doneB bs.length ix bad = bad := if_neg (fun q => h0 q.1)
    rw [e] at step ⊢
    exact step bad rfl (fun _ => rfl) rfl rfl rfl (fun _ => rfl) (at1_done (fun _ => rfl) (fun _ => rfl))
theorem rnew_any (a : Option Addr) (cap : Nat) (bs : List Int) (w : World) (H : Cells w a (bcells bs)) (hl : bs.length ≤ 140737488355328) : Calls Try.prog 58 #[.slice a bs.length cap] w (fun e w' => ∃ b a' c', e = .returned (.pointer (some ⟨b, 0, none⟩)) ∧ w.heap.size ≤ b ∧ Blk w' b (rcells a' c' bs 0 0) 128 ∧ (frow a' c' bs).X w' ∧ (∀ k, c' ≠ 0 → abk a' = some k → w.heap.size ≤ k ∧ k ≠ b) ∧ Below w.heap.size w w') := by
  refine calls_at (tab_ok _) Try.func58 rfl tRNew (ρ := ⟨[], [], [], [bs.length, cap], [a]⟩) (ids := []) (hx := HX.cl a (bcells bs)) rfl (Facts.initq rfl oneNil H (cl_sep H)) ?_
  refine node_appends (xs := []) rfl Try.underlying35 info_byte rfl (by decide) none 0 0 (fun _ => a) bs.length cap (bcells bs) (by simp [bcells_len]) (fun ids w _ _ => HX.rw_nil _ _ _ w) (fun ids w2 hp hf => hf.x) (bcells_one bs) (fun w h => ⟨h, fun _ q => q⟩) (fun k h => absurd rfl h) (fun k h => absurd rfl h) (fun k h => absurd rfl h) (by unfold maxLen; omega) (by omega) (by intros; kernel_rfl) (by intros; kernel_rfl) (by intros; kernel_rfl) rfl rfl (fun _ _ => rfl) ?_
  intro a' c' _ hd hw ids w2 hp hf
  have hX := hf.x.2
  rw [Nat.zero_add, List.nil_append] at hX
  have hmem := idAt_mem (ids := ids) (n := 0) (by rw [hf.len]; decide)
  have e0 := hf.blkAt 0 rfl
  refine ⟨idAt ids 0, a', c', rfl, (hf.own _ hmem).resolve_right (fun e => e), ?_, hX, fun k h1 h2 => ⟨?_, fun e => ?_⟩, hf.chg.below⟩
  · show w2.heap[idAt ids 0]? = _
    rw [e0]
    show some (Obj.cells (#[.slice a' (0 + bs.length) c', .int .i64 0, .int .i64 0]) 128 (0, 0)) = _
    rw [Nat.zero_add]; rfl
  · rcases hw k h1 h2 with q | q
    · exact absurd rfl q.1
    · exact q.1
  · have := (hf.sep k (.inr ⟨h1, h2⟩)).2
    exact this (e ▸ hmem)
def Left (a : Option Addr) (l : List Int) (a' : Option Addr) (l' : List Int) (c' : Nat) : Prop := (∀ w, Cells w a (bcells l) → Cells w a' (bcells l')) ∧ l'.length ≤ c' ∧ blk a' = blk a
theorem Left.refl {a : Option Addr} {l : List Int} {c : Nat} (h : l.length ≤ c) : Left a l a l c := ⟨fun _ h => h, h, rfl⟩
theorem Left.trans {a b c : Option Addr} {l m n : List Int} {x y : Nat} (h : Left a l b m x) (h2 : Left b m c n y) : Left a l c n y := ⟨fun w q => h2.1 w (h.1 w q), h2.2.1, h2.2.2.trans h.2.2⟩
end Go.Proofs.Ytadgaefmoobcoaa

namespace Go.Proofs.Ytadgaefmoobcoaa
open Go.ChangeShapes Go.WideShapes Go.ChangeAt Go.RowKit Go.Syn Go.Eng
set_option linter.unusedVariables false
set_option linter.unusedSimpArgs false
set_option maxRecDepth 100000
theorem quo_u64 {n : Nat} (h : n < 2 ^ 64) : ifn .quo .u64 (n : Int) 256 = ((n / 256 : Nat) : Int) := by
  show IntKind.u64.wrap ((n / 256 : Nat) : Int) = _
  exact IntWalk.u64_in _ (by omega)
theorem dig_u8 (n : Nat) : IntKind.u8.wrap (ifn .rem .u64 (n : Int) 256) = ((n % 256 : Nat) : Int) := by
  show IntKind.u8.wrap ((n % 256 : Nat) : Int) = _
  exact u8_small (by omega)
theorem blk_cells {w : World} {b ty : Nat} {us : List Value} (h : Blk w b us ty) : Cells w (some ⟨b, 0, none⟩) us := fun h0 => by
  refine ⟨rfl, ?_, fun i u hi => ?_⟩
  · show b < w.heap.size
    rcases Nat.lt_or_ge b w.heap.size with q | q
    · exact q
    · have h2 : w.heap[b]? = _ := h
      rw [Array.getElem?_eq_none q] at h2; cases h2
  · have := cells_blk (o := 0) h i
    rw [Nat.zero_add] at this
    show w.cell? ⟨b, 0 + i, none⟩ = some u
    rw [Nat.zero_add, ← hi]
    exact this
theorem row_blk {w : World} {b : Nat} {bs : List Int} (hne : bs ≠ []) (hl : bs.length ≤ maxLen) (h : Blk w b (bcells bs) 5) : (frow (some ⟨b, 0, none⟩) bs.length bs).X w := by
  have := rw_shut (sz := 1) (n := bs.length) (cap := bs.length) (fun q => hne (List.eq_nil_of_length_eq_zero q)) h (Nat.le_refl _) hl (by rw [bcells_len]; omega)
  rwa [List.take_of_length_le (by rw [bcells_len]; omega)] at this
theorem new_o {w w' : World} {a : Option Addr} {cap n : Nat} {bs : List Int} {us : List Value} {v : Value} (hn : n = bs.length) (hus : us = bcells bs) (hv : v = .slice a n cap) (h : (HX.rw 1 5 a n cap us).X w') (hk : ∀ k, cap ≠ 0 → abk a = some k → w.heap.size ≤ k) (hb : Below w.heap.size w w') : NewO w id bs (.returned v) w' := by
  subst hn; subst hus; subst hv
  exact ⟨a, cap, rfl, h, hk, hb⟩
theorem numB_eq (u : Nat) {r : Nat} (h : nlen u = r) : numB u = (r : Int) :: digs r u := by unfold numB; rw [h]
set_option maxHeartbeats 4000000 in
theorem qn_any {u : Nat} (hu : u < 2 ^ 64) (w : World) : Calls Try.prog 50 #[.int .u64 (u : Int)] w (NewO w id (numB u)) := by
  refine calls_at (tab_ok _) Try.func50 rfl tQNum (ρ := ⟨[(u : Int)], [], [], [], []⟩) (ids := []) (hx := HX.nil) rfl (Facts.initP rfl oneNil) ?_
  have d0 : ∀ r, u / 256 ^ r / 256 = u / 256 ^ (r + 1) := fun r => by rw [Nat.div_div_eq_div_mul, Nat.pow_succ]
  have dl : ∀ r, u / 256 ^ r < 2 ^ 64 := fun r => Nat.lt_of_le_of_lt (Nat.div_le_self _ _) hu
  have e0 : (u : Int) = ((u / 256 ^ 0 : Nat) : Int) := by simp
  have e1 : ifn .quo .u64 ((u : Int)) 256 = ((u / 256 ^ 1 : Nat) : Int) := by rw [e0, quo_u64 (dl 0), d0]
  have e2 : ifn .quo .u64 (ifn .quo .u64 ((u : Int)) 256) 256 = ((u / 256 ^ 2 : Nat) : Int) := by rw [e1, quo_u64 (dl 1), d0]
  have e3 : ifn .quo .u64 (ifn .quo .u64 (ifn .quo .u64 ((u : Int)) 256) 256) 256 = ((u / 256 ^ 3 : Nat) : Int) := by rw [e2, quo_u64 (dl 2), d0]
  have e4 : ifn .quo .u64 (ifn .quo .u64 (ifn .quo .u64 (ifn .quo .u64 ((u : Int)) 256) 256) 256) 256 = ((u / 256 ^ 4 : Nat) : Int) := by rw [e3, quo_u64 (dl 3), d0]
  have e5 : ifn .quo .u64 (ifn .quo .u64 (ifn .quo .u64 (ifn .quo .u64 (ifn .quo .u64 ((u : Int)) 256) 256) 256) 256) 256 = ((u / 256 ^ 5 : Nat) : Int) := by rw [e4, quo_u64 (dl 4), d0]
  have e6 : ifn .quo .u64 (ifn .quo .u64 (ifn .quo .u64 (ifn .quo .u64 (ifn .quo .u64 (ifn .quo .u64 ((u : Int)) 256) 256) 256) 256) 256) 256 = ((u / 256 ^ 6 : Nat) : Int) := by rw [e5, quo_u64 (dl 5), d0]
  have e7 : ifn .quo .u64 (ifn .quo .u64 (ifn .quo .u64 (ifn .quo .u64 (ifn .quo .u64 (ifn .quo .u64 (ifn .quo .u64 ((u : Int)) 256) 256) 256) 256) 256) 256) 256 = ((u / 256 ^ 7 : Nat) : Int) := by rw [e6, quo_u64 (dl 6), d0]
  have e8 : ifn .quo .u64 (ifn .quo .u64 (ifn .quo .u64 (ifn .quo .u64 (ifn .quo .u64 (ifn .quo .u64 (ifn .quo .u64 (ifn .quo .u64 ((u : Int)) 256) 256) 256) 256) 256) 256) 256) 256 = ((u / 256 ^ 8 : Nat) : Int) := by rw [e7, quo_u64 (dl 7), d0]
  have cgt : ∀ {r : Nat} {X : Int}, X = ((u / 256 ^ r : Nat) : Int) → 0 < u / 256 ^ r → decide (X > 0) = true := fun e h => by rw [e]; exact decide_eq_true (by omega)
  have cle : ∀ {r : Nat} {X : Int}, X = ((u / 256 ^ r : Nat) : Int) → ¬ 0 < u / 256 ^ r → decide (X > 0) = false := fun e h => by rw [e]; exact decide_eq_false (by omega)
  have dg : ∀ {r : Nat} {X : Int}, X = ((u / 256 ^ r : Nat) : Int) → IntKind.u8.wrap (ifn .rem .u64 X 256) = ((u / 256 ^ r % 256 : Nat) : Int) := fun e => by rw [e]; exact dig_u8 _
  have nl : ∀ r, ¬ 0 < u / 256 ^ r → (r = 0 ∨ ∃ s, r = s + 1 ∧ 0 < u / 256 ^ s) → nlen u = r := fun r h h2 => by
    have h1 : u < 256 ^ r := by
      rcases Nat.lt_or_ge u (256 ^ r) with q | q
      · exact q
      · exact absurd (Nat.div_pos q (Nat.pow_pos (by decide))) h
    have h3 := nlen_le h1
    rcases h2 with rfl | ⟨s, rfl, hs⟩
    · omega
    · have h4 : 256 ^ s ≤ u := by
        rcases Nat.lt_or_ge u (256 ^ s) with q | q
        · rw [Nat.div_eq_of_lt q] at hs; omega
        · exact q
      have := nlen_gt h4
      omega
  have cons1 : ∀ r, [Value.int .u8 ((u / 256 ^ r % 256 : Nat) : Int)] ++ bcells (digs r u) = bcells (digs (r + 1) u) := fun r => by rw [digs_front]; rfl
  have lenr : ∀ r : Nat, r ≤ 9 → [Value.int .u8 (IntKind.u8.wrap (IntKind.i64.wrap (r : Int)))] = [Value.int .u8 (r : Int)] := fun r h => by rw [wrap_i64 (by omega), u8_small (by omega)]
  by_cases g0 : ¬ 0 < u / 256 ^ 0
  · refine br_f (cle (r := 0) e0 g0) ?_
    have hnl := nl 0 g0 (.inl rfl)
    refine node_pre0 (bn := 1) (k := 1) rfl Try.underlying35 info_byte rfl (fun ids => some ⟨idAt ids 0, 0, none⟩) 0 (fun _ => rfl) (fun _ _ => rfl) (by decide) (fun _ _ => rfl) rfl rfl (fun _ => rfl) ?_
    intro ids1 hp1 hl1 ids w2 hp hf
    have hb := hf.blkAt 1 rfl
    have hmem := idAt_mem (ids := ids) (n := 1) (by rw [hf.len]; decide)
    have hid : idAt ids 1 = idAt ids1 1 := idAt_pre hp (by rw [hl1]; decide)
    rw [hid] at hb hmem
    rw [numB_eq u hnl]
    exact new_o rfl rfl rfl (row_blk (bs := [0]) (by simp) (by decide) hb) (fun k _ h2 => by cases h2; exact (hf.own _ hmem).resolve_right (fun e => e)) hf.chg.below
  have g0 := Decidable.not_not.1 g0
  refine br_t (cgt (r := 0) e0 g0) ?_
  refine node_pre0 (bn := 1) (k := 1) rfl Try.underlying35 info_byte rfl (fun ids => some ⟨idAt ids 0, 0, none⟩) 0 (fun _ => rfl) (fun _ _ => rfl) (by decide) (fun _ _ => rfl) rfl rfl (fun _ => rfl) ?_
  intro ids1 hp1 hl1
  have hb1 : [Value.int .u8 (IntKind.u8.wrap (ifn .rem .u64 (u : Int) 256))] = bcells (digs 1 u) := by rw [dg e0, ← cons1 0]; rfl
  by_cases g1 : ¬ 0 < u / 256 ^ 1
  · refine br_f (cle (r := 1) e1 g1) ?_
    have hnl := nl 1 g1 (.inr ⟨0, rfl, g0⟩)
    refine node_pre (bn := 2) (k := 1) rfl Try.underlying35 info_byte rfl (by decide) [.int .u8 (1 : Int)] (fun _ => some ⟨idAt ids1 1, 0, none⟩) 1 1 (bcells (digs 1 u)) rfl (fun _ => ?_) rfl (by rw [bcells_len, digs_len]) (by decide) (fun ids w2 hp hf => by have hb := hf.blkAt 1 rfl; rw [idAt_pre hp (show 1 < ids1.length by rw [hl1]; decide)] at hb; rw [← hb1]; exact blk_cells hb) (by decide) (by decide) (fun _ => rfl) (fun _ _ => rfl) (fun _ _ _ => rfl) rfl rfl (fun _ _ => rfl) ?_
    · exact lenr 1 (by decide)
    intro a c hac ids w2 hp hf
    rw [numB_eq u hnl]
    exact new_o (n := 1 + 1) (by rw [List.length_cons, digs_len]) rfl rfl hf.x.2 (fun k h1 h2 => (hac k h1 h2).1) hf.chg.below
  have g1 := Decidable.not_not.1 g1
  refine br_t (cgt (r := 1) e1 g1) ?_
  refine node_pre (bn := 2) (k := 1) rfl Try.underlying35 info_byte rfl (by decide) [.int .u8 ((u / 256 ^ 1 % 256 : Nat) : Int)] (fun _ => some ⟨idAt ids1 1, 0, none⟩) 1 1 (bcells (digs 1 u)) rfl (fun _ => ?_) rfl (by rw [bcells_len, digs_len]) (by decide) (fun ids w2 hp hf => by have hb := hf.blkAt 1 rfl; rw [idAt_pre hp (show 1 < ids1.length by rw [hl1]; decide)] at hb; rw [← hb1]; exact blk_cells hb) (by decide) (by decide) (fun _ => rfl) (fun _ _ => rfl) (fun _ _ _ => rfl) rfl rfl (fun _ _ => rfl) ?_
  · exact congrArg (fun x => [Value.int .u8 x]) (dg (r := 1) e1)
  intro a2 c2 hac2
  by_cases g2 : ¬ 0 < u / 256 ^ 2
  · refine br_f (cle (r := 2) e2 g2) ?_
    have hnl := nl 2 g2 (.inr ⟨1, rfl, g1⟩)
    refine node_pre (bn := 3) (k := 1) rfl Try.underlying35 info_byte rfl (by decide) [.int .u8 (2 : Int)] (fun _ => a2) 2 c2 (bcells (digs 2 u)) rfl (fun _ => ?_) rfl (by rw [bcells_len, digs_len]) (by decide) (fun ids w2 hp hf => by rw [← cons1 1]; exact rw_cells hf.x.2) (by decide) (by decide) (fun _ => rfl) (fun _ _ => rfl) (fun _ _ _ => rfl) rfl rfl (fun _ _ => rfl) ?_
    · exact lenr 2 (by decide)
    intro a c hac ids w2 hp hf
    rw [numB_eq u hnl]
    exact new_o (n := 1 + 2) (by rw [List.length_cons, digs_len]) rfl rfl hf.x.2 (fun k h1 h2 => (hac k h1 h2).1) hf.chg.below
  have g2 := Decidable.not_not.1 g2
  refine br_t (cgt (r := 2) e2 g2) ?_
  refine node_pre (bn := 3) (k := 1) rfl Try.underlying35 info_byte rfl (by decide) [.int .u8 ((u / 256 ^ 2 % 256 : Nat) : Int)] (fun _ => a2) 2 c2 (bcells (digs 2 u)) rfl (fun _ => ?_) rfl (by rw [bcells_len, digs_len]) (by decide) (fun ids w2 hp hf => by rw [← cons1 1]; exact rw_cells hf.x.2) (by decide) (by decide) (fun _ => rfl) (fun _ _ => rfl) (fun _ _ _ => rfl) rfl rfl (fun _ _ => rfl) ?_
  · exact congrArg (fun x => [Value.int .u8 x]) (dg (r := 2) e2)
  intro a3 c3 hac3
  by_cases g3 : ¬ 0 < u / 256 ^ 3
  · refine br_f (cle (r := 3) e3 g3) ?_
    have hnl := nl 3 g3 (.inr ⟨2, rfl, g2⟩)
    refine node_pre (bn := 4) (k := 1) rfl Try.underlying35 info_byte rfl (by decide) [.int .u8 (3 : Int)] (fun _ => a3) 3 c3 (bcells (digs 3 u)) rfl (fun _ => ?_) rfl (by rw [bcells_len, digs_len]) (by decide) (fun ids w2 hp hf => by rw [← cons1 2]; exact rw_cells hf.x.2) (by decide) (by decide) (fun _ => rfl) (fun _ _ => rfl) (fun _ _ _ => rfl) rfl rfl (fun _ _ => rfl) ?_
    · exact lenr 3 (by decide)
    intro a c hac ids w2 hp hf
    rw [numB_eq u hnl]
    exact new_o (n := 1 + 3) (by rw [List.length_cons, digs_len]) rfl rfl hf.x.2 (fun k h1 h2 => (hac k h1 h2).1) hf.chg.below
  have g3 := Decidable.not_not.1 g3
  refine br_t (cgt (r := 3) e3 g3) ?_
  refine node_pre (bn := 4) (k := 1) rfl Try.underlying35 info_byte rfl (by decide) [.int .u8 ((u / 256 ^ 3 % 256 : Nat) : Int)] (fun _ => a3) 3 c3 (bcells (digs 3 u)) rfl (fun _ => ?_) rfl (by rw [bcells_len, digs_len]) (by decide) (fun ids w2 hp hf => by rw [← cons1 2]; exact rw_cells hf.x.2) (by decide) (by decide) (fun _ => rfl) (fun _ _ => rfl) (fun _ _ _ => rfl) rfl rfl (fun _ _ => rfl) ?_
  · exact congrArg (fun x => [Value.int .u8 x]) (dg (r := 3) e3)
  intro a4 c4 hac4
  by_cases g4 : ¬ 0 < u / 256 ^ 4
  · refine br_f (cle (r := 4) e4 g4) ?_
    have hnl := nl 4 g4 (.inr ⟨3, rfl, g3⟩)
    refine node_pre (bn := 5) (k := 1) rfl Try.underlying35 info_byte rfl (by decide) [.int .u8 (4 : Int)] (fun _ => a4) 4 c4 (bcells (digs 4 u)) rfl (fun _ => ?_) rfl (by rw [bcells_len, digs_len]) (by decide) (fun ids w2 hp hf => by rw [← cons1 3]; exact rw_cells hf.x.2) (by decide) (by decide) (fun _ => rfl) (fun _ _ => rfl) (fun _ _ _ => rfl) rfl rfl (fun _ _ => rfl) ?_
    · exact lenr 4 (by decide)
    intro a c hac ids w2 hp hf
    rw [numB_eq u hnl]
    exact new_o (n := 1 + 4) (by rw [List.length_cons, digs_len]) rfl rfl hf.x.2 (fun k h1 h2 => (hac k h1 h2).1) hf.chg.below
  have g4 := Decidable.not_not.1 g4
  refine br_t (cgt (r := 4) e4 g4) ?_
  refine node_pre (bn := 5) (k := 1) rfl Try.underlying35 info_byte rfl (by decide) [.int .u8 ((u / 256 ^ 4 % 256 : Nat) : Int)] (fun _ => a4) 4 c4 (bcells (digs 4 u)) rfl (fun _ => ?_) rfl (by rw [bcells_len, digs_len]) (by decide) (fun ids w2 hp hf => by rw [← cons1 3]; exact rw_cells hf.x.2) (by decide) (by decide) (fun _ => rfl) (fun _ _ => rfl) (fun _ _ _ => rfl) rfl rfl (fun _ _ => rfl) ?_
  · exact congrArg (fun x => [Value.int .u8 x]) (dg (r := 4) e4)
  intro a5 c5 hac5
  by_cases g5 : ¬ 0 < u / 256 ^ 5
  · refine br_f (cle (r := 5) e5 g5) ?_
    have hnl := nl 5 g5 (.inr ⟨4, rfl, g4⟩)
    refine node_pre (bn := 6) (k := 1) rfl Try.underlying35 info_byte rfl (by decide) [.int .u8 (5 : Int)] (fun _ => a5) 5 c5 (bcells (digs 5 u)) rfl (fun _ => ?_) rfl (by rw [bcells_len, digs_len]) (by decide) (fun ids w2 hp hf => by rw [← cons1 4]; exact rw_cells hf.x.2) (by decide) (by decide) (fun _ => rfl) (fun _ _ => rfl) (fun _ _ _ => rfl) rfl rfl (fun _ _ => rfl) ?_
    · exact lenr 5 (by decide)
    intro a c hac ids w2 hp hf
    rw [numB_eq u hnl]
    exact new_o (n := 1 + 5) (by rw [List.length_cons, digs_len]) rfl rfl hf.x.2 (fun k h1 h2 => (hac k h1 h2).1) hf.chg.below
  have g5 := Decidable.not_not.1 g5
  refine br_t (cgt (r := 5) e5 g5) ?_
  refine node_pre (bn := 6) (k := 1) rfl Try.underlying35 info_byte rfl (by decide) [.int .u8 ((u / 256 ^ 5 % 256 : Nat) : Int)] (fun _ => a5) 5 c5 (bcells (digs 5 u)) rfl (fun _ => ?_) rfl (by rw [bcells_len, digs_len]) (by decide) (fun ids w2 hp hf => by rw [← cons1 4]; exact rw_cells hf.x.2) (by decide) (by decide) (fun _ => rfl) (fun _ _ => rfl) (fun _ _ _ => rfl) rfl rfl (fun _ _ => rfl) ?_
  · exact congrArg (fun x => [Value.int .u8 x]) (dg (r := 5) e5)
  intro a6 c6 hac6
  by_cases g6 : ¬ 0 < u / 256 ^ 6
  · refine br_f (cle (r := 6) e6 g6) ?_
    have hnl := nl 6 g6 (.inr ⟨5, rfl, g5⟩)
    refine node_pre (bn := 7) (k := 1) rfl Try.underlying35 info_byte rfl (by decide) [.int .u8 (6 : Int)] (fun _ => a6) 6 c6 (bcells (digs 6 u)) rfl (fun _ => ?_) rfl (by rw [bcells_len, digs_len]) (by decide) (fun ids w2 hp hf => by rw [← cons1 5]; exact rw_cells hf.x.2) (by decide) (by decide) (fun _ => rfl) (fun _ _ => rfl) (fun _ _ _ => rfl) rfl rfl (fun _ _ => rfl) ?_
    · exact lenr 6 (by decide)
    intro a c hac ids w2 hp hf
    rw [numB_eq u hnl]
    exact new_o (n := 1 + 6) (by rw [List.length_cons, digs_len]) rfl rfl hf.x.2 (fun k h1 h2 => (hac k h1 h2).1) hf.chg.below
  have g6 := Decidable.not_not.1 g6
  refine br_t (cgt (r := 6) e6 g6) ?_
  refine node_pre (bn := 7) (k := 1) rfl Try.underlying35 info_byte rfl (by decide) [.int .u8 ((u / 256 ^ 6 % 256 : Nat) : Int)] (fun _ => a6) 6 c6 (bcells (digs 6 u)) rfl (fun _ => ?_) rfl (by rw [bcells_len, digs_len]) (by decide) (fun ids w2 hp hf => by rw [← cons1 5]; exact rw_cells hf.x.2) (by decide) (by decide) (fun _ => rfl) (fun _ _ => rfl) (fun _ _ _ => rfl) rfl rfl (fun _ _ => rfl) ?_
  · exact congrArg (fun x => [Value.int .u8 x]) (dg (r := 6) e6)
  intro a7 c7 hac7
  by_cases g7 : ¬ 0 < u / 256 ^ 7
  · refine br_f (cle (r := 7) e7 g7) ?_
    have hnl := nl 7 g7 (.inr ⟨6, rfl, g6⟩)
    refine node_pre (bn := 8) (k := 1) rfl Try.underlying35 info_byte rfl (by decide) [.int .u8 (7 : Int)] (fun _ => a7) 7 c7 (bcells (digs 7 u)) rfl (fun _ => ?_) rfl (by rw [bcells_len, digs_len]) (by decide) (fun ids w2 hp hf => by rw [← cons1 6]; exact rw_cells hf.x.2) (by decide) (by decide) (fun _ => rfl) (fun _ _ => rfl) (fun _ _ _ => rfl) rfl rfl (fun _ _ => rfl) ?_
    · exact lenr 7 (by decide)
    intro a c hac ids w2 hp hf
    rw [numB_eq u hnl]
    exact new_o (n := 1 + 7) (by rw [List.length_cons, digs_len]) rfl rfl hf.x.2 (fun k h1 h2 => (hac k h1 h2).1) hf.chg.below
  have g7 := Decidable.not_not.1 g7
  refine br_t (cgt (r := 7) e7 g7) ?_
  refine node_pre (bn := 8) (k := 1) rfl Try.underlying35 info_byte rfl (by decide) [.int .u8 ((u / 256 ^ 7 % 256 : Nat) : Int)] (fun _ => a7) 7 c7 (bcells (digs 7 u)) rfl (fun _ => ?_) rfl (by rw [bcells_len, digs_len]) (by decide) (fun ids w2 hp hf => by rw [← cons1 6]; exact rw_cells hf.x.2) (by decide) (by decide) (fun _ => rfl) (fun _ _ => rfl) (fun _ _ _ => rfl) rfl rfl (fun _ _ => rfl) ?_
  · exact congrArg (fun x => [Value.int .u8 x]) (dg (r := 7) e7)
  intro a8 c8 hac8
  have g8 : ¬ 0 < u / 256 ^ 8 := by rw [Nat.div_eq_of_lt (by simpa using hu)]; decide
  refine br_f (cle (r := 8) e8 g8) ?_
  have hnl := nl 8 g8 (.inr ⟨7, rfl, g7⟩)
  refine node_pre (bn := 9) (k := 1) rfl Try.underlying35 info_byte rfl (by decide) [.int .u8 (8 : Int)] (fun _ => a8) 8 c8 (bcells (digs 8 u)) rfl (fun _ => ?_) rfl (by rw [bcells_len, digs_len]) (by decide) (fun ids w2 hp hf => by rw [← cons1 7]; exact rw_cells hf.x.2) (by decide) (by decide) (fun _ => rfl) (fun _ _ => rfl) (fun _ _ _ => rfl) rfl rfl (fun _ _ => rfl) ?_
  · exact lenr 8 (by decide)
  intro a c hac ids w2 hp hf
  rw [numB_eq u hnl]
  exact new_o (n := 1 + 8) (by rw [List.length_cons, digs_len]) rfl rfl hf.x.2 (fun k h1 h2 => (hac k h1 h2).1) hf.chg.below
theorem qi_any {i : Int} (hi : I64 i) (w : World) : Calls Try.prog 53 #[.int .i64 i] w (NewO w id (numB (foldN i))) := by
  refine calls_at (tab_ok _) Try.func53 rfl tQInt (ρ := ⟨[i], [], [], [], []⟩) (ids := []) (hx := HX.nil) rfl (Facts.initP rfl oneNil) ?_
  refine node_val ⟨[(foldN i : Int)], [], [], [], []⟩ (fun w => rfold_any hi w) (fun _ => rfl) (fun _ => rfl) rfl rfl rfl oneNil ?_
  refine node_newo (V := id) (bs := numB (foldN i)) _ (fun a' c' => ⟨[], [], [], [(numB (foldN i)).length, c'], [a']⟩) (fun _ => rfl) (fun ids w2 hp hf => qn_any (foldN_lt hi) w2) (fun _ _ _ => rfl) rfl rfl (fun _ _ => rfl) (fun _ _ => oneNil) ?_
  intro a' c' hs hn ids w2 hp hf
  exact ⟨a', c', rfl, hf.x.2, fun k h1 h2 => (hn k h1 h2).1, hf.chg.below⟩
end Go.Proofs.Ytadgaefmoobcoaa

namespace Go.Eng
open Go.ChangeShapes Go.WideShapes Go.ChangeAt Go.RowKit Go.Syn
set_option linter.unusedVariables false
set_option linter.unusedSimpArgs false
section
variable {C : Cfg} {ρ : Env} {pre : List Nat} {hx : HX} {L : Stack} {m m' : Mem} {ty : Nat} {ps : List (Nat × SV)} {r : SV} {T : Tree}
theorem node_lit {t e len sz : Nat} {ps0 : Array (Nat × Operand)} (us : List Value) (parts : Array (Nat × Value)) (hp0 : ∀ ids, (ps0.map fun x => (x.1, envOf ρ ids ps x.2)) = parts) (hrun : ∀ w, (Instr.buildSlice t len parts).run C.P w = .ok (.slice (some ⟨w.heap.size, 0, none⟩) len len) (w.alloc (.cells us.toArray e))) (hl : us.length = len * sz) (hm : len ≤ maxLen)
    (hr : ∀ a' ids, r.den (ρ.add ⟨[], [], [], [len, len], [a']⟩) ids = .slice a' len len) (hhp : m'.hp = m.hp) (hfit : hpFits m.c m.hp.length m.hp = true) (hc : ∀ a', (ρ.add ⟨[], [], [], [len, len], [a']⟩).cnt = m'.c)
    (h : ∀ a', (∀ k, len ≠ 0 → abk a' = some k → C.W.heap.size ≤ k ∧ ¬ hx.F k) → T.holds C (ρ.add ⟨[], [], [], [len, len], [a']⟩) pre (hx.and (HX.rw sz e a' len len us)) L) : (Tree.gen (.buildSlice t len ps0) ty ps m (some r) m' T).holds C ρ pre hx L := by
  intro ids w hp hf
  unfold GenRun
  have hg : w.grownBy (w.alloc (.cells us.toArray e)) none := ⟨rfl, rfl, rfl, by show w.heap.size ≤ (w.heap.push _).size; simp, fun k hk _ => heap_alloc_old w _ hk⟩
  have hnew : (w.alloc (.cells us.toArray e)).heap[w.heap.size]? = some (.cells us.toArray e (0, 0)) := by show (w.heap.push _)[w.heap.size]? = _; simp
  have hrow : (HX.rw sz e (some ⟨w.heap.size, 0, none⟩) len len us).X (w.alloc (.cells us.toArray e)) := by
    by_cases h0 : len = 0
    · subst h0
      exact .inl ⟨rfl, rfl, List.eq_nil_of_length_eq_zero (by rw [hl]; simp)⟩
    · have := rw_shut (sz := sz) (n := len) (cap := len) h0 hnew (Nat.le_refl _) hm hl
      rwa [← hl, List.take_length] at this
  have hsz : (w.alloc (.cells us.toArray e)).heap.size = w.heap.size + 1 := by show (w.heap.push _).size = _; simp
  simp only [execOp, hp0, Sem.run_bind, Sem.run_pure, Result.andThen_ok, hrun]
  refine ⟨⟨[], [], [], [len, len], [some ⟨w.heap.size, 0, none⟩]⟩, ids, hx.and (HX.rw sz e (some ⟨w.heap.size, 0, none⟩) len len us), ?_, List.prefix_refl _, hf.turn (hx' := hx.and (HX.rw sz e (some ⟨w.heap.size, 0, none⟩) len len us)) hg (fun b e => by cases e) ⟨hx.loc w _ hf.x fun k hk => hg.block k (hf.sep k hk).1 (fun q => by cases q), hrow⟩ (fun k hk => ?_) hhp hfit (hc _) oneNil, holds_pre T hp (h _ (fun k _ hk => ?_))⟩
  · simp only [Option.map_some, hr]
  · rcases hk with hk | hk
    · exact .inl hk
    · have : w.heap.size = k := by have := hk.2; injection this
      exact .inr ⟨by omega, by omega⟩
  · have e1 : w.heap.size = k := by injection hk
    exact ⟨by have := hf.chg.size; omega, fun q => by have := (hf.sep k q).1; omega⟩
end
end Go.Eng
