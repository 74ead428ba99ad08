/- Contracts of the reader and of the reference's. -/
import Derived.Test.YtadgaefmoobcoaaWr
namespace Go.Proofs.Ytadgaefmoobcoaa
open Go.ChangeShapes Go.WideShapes Go.ChangeAt Go.RowKit Go.Syn Go.Eng
set_option linter.unusedVariables false
set_option linter.unusedSimpArgs false
set_option maxRecDepth 100000
def rcells (a : Option Addr) (cap : Nat) (bs : List Int) (ix : Nat) (bad : Int) : List Value := [.slice a bs.length cap, .int .i64 (ix : Int), .int .i64 bad]
structure RdAt (w : World) (nb : Nat) (a : Option Addr) (cap : Nat) (bs : List Int) (ix : Nat) (bad : Int) : Prop where
  blk : Blk w nb (rcells a cap bs ix bad) 128
  mem : Cells w a (bcells bs)
  ne : bs ≠ [] → Go.Syn.blk a ≠ nb
  byt : Byt bs
  len : bs.length ≤ 140737488355328
  cap : bs.length ≤ cap
  ix : ix ≤ bs.length
/-- The place behind a number that was read. -/
def ixN (bs : List Int) (ix : Nat) (bad : Int) : Nat := bs.length - (readN (bs.drop ix) bad).1.length
theorem getD_blk {a : Option Addr} (h : a.isSome = true) : (a.getD ⟨0, 0, none⟩).block = blk a := by
  cases a with
  | none => cases h
  | some ad => rfl
theorem sliA_some {a : Option Addr} {l cap sz : Nat} (h : a.isSome = true) : (sliA a l cap sz).isSome = true := by
  unfold sliA
  split
  · exact h
  · cases a with
    | none => cases h
    | some ad => rfl
theorem readN_suffix (l : List Int) (bad : Int) : ∃ k, k ≤ l.length ∧ (readN l bad).1 = l.drop k := by
  unfold readN
  split
  · exact ⟨0, Nat.zero_le _, rfl⟩
  · cases l with
    | nil => exact ⟨0, Nat.zero_le _, rfl⟩
    | cons n r =>
      simp only
      split
      · exact ⟨0, Nat.zero_le _, rfl⟩
      · split
        · exact ⟨0, Nat.zero_le _, rfl⟩
        · split
          · exact ⟨0, Nat.zero_le _, rfl⟩
          · refine ⟨n.toNat + 1, ?_, rfl⟩
            rw [List.length_cons]; omega
theorem ixN_le (bs : List Int) (ix : Nat) (bad : Int) : ixN bs ix bad ≤ bs.length := Nat.sub_le _ _
theorem ixN_drop {bs : List Int} {ix : Nat} (h : ix ≤ bs.length) (bad : Int) : bs.drop (ixN bs ix bad) = (readN (bs.drop ix) bad).1 := by
  obtain ⟨k, hk, e⟩ := readN_suffix (bs.drop ix) bad
  rw [List.length_drop] at hk
  unfold ixN
  rw [e, List.drop_drop, List.length_drop]
  congr 1; omega
theorem readN_u64 {l : List Int} (hb : Byt l) (bad : Int) : (readN l bad).2.2 < 2 ^ 64 := by
  by_cases h : (readN l bad).2.1 = 0
  · exact (readN_ok hb h).2.2
  · unfold readN at *
    by_cases h0 : bad = 0
    · rw [if_neg (by simpa using h0)] at *
      cases l with
      | nil => decide
      | cons n r =>
        simp only at *
        by_cases h1 : 8 < n
        · rw [if_pos h1]; show 0 < 2 ^ 64; decide
        · rw [if_neg h1] at *
          by_cases h2 : r.length < n.toNat
          · rw [if_pos h2]; show 0 < 2 ^ 64; decide
          · rw [if_neg h2] at *
            by_cases h3 : nlen (valB (r.take n.toNat)) ≠ n.toNat
            · rw [if_pos h3]; show 0 < 2 ^ 64; decide
            · rw [if_neg h3] at h; exact absurd rfl h
    · rw [if_pos h0]; show 0 < 2 ^ 64; decide
theorem or_byte {u : Nat} {c : Int} (hu : u < 2 ^ 56) (hc : 0 ≤ c ∧ c < 256) : ifn .or .u64 (ifn .shl .u64 (u : Int) 8) (IntKind.u64.wrap c) = ((256 * u + c.toNat : Nat) : Int) := by
  have wr : ∀ x : Int, IntKind.u64.wrap x = x % 18446744073709551616 := fun x => rfl
  have e1 : ifn .shl .u64 (u : Int) 8 = ((256 * u : Nat) : Int) := by
    show IntKind.u64.wrap ((u : Int) * 256) = _
    rw [wr]; omega
  have e2 : IntKind.u64.wrap c = (c.toNat : Int) := by rw [wr]; omega
  rw [e1, e2]
  show IntKind.u64.wrap ((BitVec.ofInt 64 ((256 * u : Nat) : Int) ||| BitVec.ofInt 64 (c.toNat : Int)).toNat : Int) = _
  have e3 : (BitVec.ofInt 64 ((256 * u : Nat) : Int) ||| BitVec.ofInt 64 (c.toNat : Int)).toNat = 256 * u + c.toNat := by
    rw [BitVec.toNat_or]
    have h1 : (BitVec.ofInt 64 ((256 * u : Nat) : Int)).toNat = 256 * u := by simp only [BitVec.toNat_ofInt]; omega
    have h2 : (BitVec.ofInt 64 (c.toNat : Int)).toNat = c.toNat := by simp only [BitVec.toNat_ofInt]; omega
    rw [h1, h2]
    exact (Nat.two_pow_add_eq_or_of_lt (i := 8) (show c.toNat < 2 ^ 8 by omega) u).symm
  rw [e3, wr]; omega
theorem valB_step {ds : List Int} {k : Nat} {c : Int} (h : ds[k]? = some c) : valB (ds.take (k + 1)) = 256 * valB (ds.take k) + c.toNat := by
  rw [List.take_add_one, h]
  exact valB_snoc _ _
def RnI (ds : List Int) (vs : Vals) (hx : HX) : Prop := ∃ k : Nat, k ≤ ds.length ∧ vs = ⟨[(valB (ds.take k) : Int), (k : Int)], [], [], [], []⟩ ∧ hx = HX.nil
theorem rnum_any (nb : Nat) (a : Option Addr) (cap : Nat) (bs : List Int) (ix : Nat) (bad : Int) (w : World) (H : RdAt w nb a cap bs ix bad) :
    Calls Try.prog 81 #[.pointer (some ⟨nb, 0, none⟩)] w (At1 w nb 128 (.int .u64 ((readN (bs.drop ix) bad).2.2 : Int)) (rcells a cap bs (ixN bs ix bad) (readN (bs.drop ix) bad).2.1)) := by
  have hlen := H.len
  have hix := H.ix
  have hcap := H.cap
  have done : ∀ {v : SV} {ρ : Env} {cs : List LV} {r : List (Nat × List LV)} {n : Cnt} {hx : HX} {L : Stack} (l' : List Int) (bad' : Int) (u' : Nat), readN (bs.drop ix) bad = (l', bad', u') → l'.length ≤ bs.length → (∀ ids, v.den ρ ids = .int .u64 (u' : Int)) → (∀ ids, cellsDen ρ ids cs = rcells a cap bs (bs.length - l'.length) bad') →
      (Tree.done v ⟨(128, cs) :: r, n⟩).holds ⟨Try.prog, w, fun x => x = nb, At1 w nb 128 (.int .u64 ((readN (bs.drop ix) bad).2.2 : Int)) (rcells a cap bs (ixN bs ix bad) (readN (bs.drop ix) bad).2.1)⟩ ρ [nb] hx L := fun l' bad' u' e hl hv hc => by
    unfold ixN
    rw [e]
    exact at1_done hv hc
  have hdl : (bs.drop ix).length = bs.length - ix := List.length_drop
  have hself : bs.length - (bs.drop ix).length = ix := by rw [hdl]; omega
  refine calls_at (tab_ok _) Try.func81 rfl tRNum (ρ := ⟨[(ix : Int), bad], [], [], [bs.length, cap], [a]⟩) (ids := [nb]) (hx := HX.nil) (M := fun x => x = nb) rfl (Facts.initx rfl oneNil H.blk rfl rfl trivial (fun k hk => hk.elim)) ?_
  by_cases h0 : bad = 0
  · subst h0
    refine br_f rfl ?_
    by_cases h1 : bs.length ≤ ix
    · refine br_t (show decide ((ix : Int) ≥ (bs.length : Int)) = true from decide_eq_true (by omega)) ?_
      have e : bs.drop ix = [] := List.drop_of_length_le h1
      exact done (bs.drop ix) 10 0 (by rw [e]; rfl) (by rw [hdl]; omega) (fun _ => rfl) (fun _ => by rw [hself]; rfl)
    · refine br_f (show decide ((ix : Int) ≥ (bs.length : Int)) = false from decide_eq_false (by omega)) ?_
      obtain ⟨n, hn⟩ : ∃ n, bs[ix]? = some n := ⟨_, List.getElem?_eq_getElem (by omega)⟩
      have hnb := H.byt n (List.mem_of_getElem? hn)
      have hbne : bs ≠ [] := fun e => by subst e; simp at hn
      have hdr : bs.drop ix = n :: bs.drop (ix + 1) := by
        have := List.drop_eq_getElem_cons (show ix < bs.length by omega)
        rw [this]
        rw [List.getElem?_eq_getElem (by omega)] at hn
        rw [Option.some.inj hn]
      obtain ⟨s1, c1⟩ := b_elt H.mem hn
      have hNb : (a.getD ⟨0, 0, none⟩).block ≠ nb := by
        have h1 := (H.mem (by rw [bcells_len]; exact List.length_pos_iff.2 hbne)).1
        have h2 := H.ne hbne
        cases a with
        | none => simp [PlainA] at h1
        | some ad => exact h2
      refine need_i ⟨s1, (show (0 : Int) ≤ ix by omega), (show (ix : Int) < bs.length by omega)⟩ ?_
      refine ⟨⟨[n], [], [], [], []⟩, fun ids => c1 _ hNb, ⟨rfl, oneNil⟩, ?_⟩
      have hnw : IntKind.i64.wrap n = n := wrap_i64 (by omega)
      by_cases h8 : 8 < n
      · refine br_t (show decide (IntKind.i64.wrap n > 8) = true by rw [hnw]; exact decide_eq_true h8) ?_
        exact done (bs.drop ix) 11 0 (by rw [hdr]; unfold readN; rw [if_neg (by simp)]; dsimp only; rw [if_pos h8]) (by rw [hdl]; omega) (fun _ => rfl) (fun _ => by rw [hself]; rfl)
      · refine br_f (show decide (IntKind.i64.wrap n > 8) = false by rw [hnw]; exact decide_eq_false (by omega)) ?_
        have hsub : ifn .sub .i64 (ifn .sub .i64 (bs.length : Int) (ix : Int)) 1 = (bs.length : Int) - ix - 1 := by
          show IntKind.i64.wrap (IntKind.i64.wrap ((bs.length : Int) - ix) - 1) = _
          rw [wrap_i64 (x := (bs.length : Int) - ix) (by omega), wrap_i64 (by omega)]
        by_cases hs : (bs.drop (ix + 1)).length < n.toNat
        · have hs2 := hs
          rw [List.length_drop] at hs2
          refine br_t (show decide (IntKind.i64.wrap n > ifn .sub .i64 (ifn .sub .i64 (bs.length : Int) (ix : Int)) 1) = true by rw [hnw, hsub]; exact decide_eq_true (by omega)) ?_
          exact done (bs.drop ix) 10 0 (by rw [hdr]; unfold readN; rw [if_neg (by simp)]; dsimp only; rw [if_neg h8, if_pos hs]) (by rw [hdl]; omega) (fun _ => rfl) (fun _ => by rw [hself]; rfl)
        · have hs2 := hs
          rw [List.length_drop] at hs2
          refine br_f (show decide (IntKind.i64.wrap n > ifn .sub .i64 (ifn .sub .i64 (bs.length : Int) (ix : Int)) 1) = false by rw [hnw, hsub]; exact decide_eq_false (by omega)) ?_
          obtain ⟨c, rfl⟩ : ∃ c : Nat, n = (c : Int) := ⟨n.toNat, by omega⟩
          rw [Int.toNat_natCast] at hs hs2
          have hw1 : IntKind.i64.wrap ((ix : Int) + 1) = ((ix + 1 : Nat) : Int) := by rw [wrap_i64 (by omega)]; omega
          have hw2 : IntKind.i64.wrap (IntKind.i64.wrap ((ix : Int) + 1) + IntKind.i64.wrap (c : Int)) = ((ix + 1 + c : Nat) : Int) := by rw [hw1, hnw, wrap_i64 (by omega)]; omega
          obtain ⟨ds, hds⟩ : ∃ ds, ds = (bs.drop (ix + 1)).take c := ⟨_, rfl⟩
          have hdsl : ds.length = c := by rw [hds, List.length_take, List.length_drop]; omega
          have hdsb : Byt ds := fun b q => H.byt b (List.mem_of_mem_drop (List.mem_of_mem_take (hds ▸ q)))
          have hdc : ix + 1 + c - (ix + 1) = c := by omega
          have hu2 : ix + 1 + c ≤ bs.length := by omega
          have hu3 : ix + 1 + c ≤ cap := Nat.le_trans hu2 hcap
          refine node_span (l := ix + 1) (u := ix + 1 + c) a Try.underlying35 (by kernel_rfl) info_byte (fun _ => rfl) (fun _ => ?_) (fun _ => ?_) (by omega) hu3 (fun _ => rfl) rfl rfl rfl ?_
          · show Value.int .i64 (IntKind.i64.wrap ((ix : Int) + 1)) = _
            rw [hw1]
          · show Value.int .i64 (IntKind.i64.wrap (IntKind.i64.wrap ((ix : Int) + 1) + IntKind.i64.wrap (c : Int))) = _
            rw [hw2]
          rw [hdc]
          have hcl : Cells w (sliA a (ix + 1) cap 1) (bcells ds) := by
            have := sli_cells H.mem (ix + 1) c cap 1 (by rw [bcells_len]; omega) (by rw [bcells_len]; omega) (by decide)
            rw [Nat.mul_one, bcells_sub] at this
            rw [hds]; exact this
          have hcne : ∀ N : Nat → Prop, (N = fun x => x = nb) → ¬ N ((sliA a (ix + 1) cap 1).getD ⟨0, 0, none⟩).block := fun N hN => by
            rw [hN]
            intro e
            have h3 := sliA_some (l := ix + 1) (cap := cap) (sz := 1) s1
            rw [getD_blk h3, blk_sliA] at e
            exact H.ne hbne e
          refine loop_i (RnI ds) (fun vs => ds.length - (vs.i.getD 1 0).toNat) (fun ids w2 hp hf => ⟨HX.nil, HXok.none _ _, 0, Nat.zero_le _, rfl, rfl⟩) ?_
          rintro vs hx' hcnt ⟨k, hk1, rfl, rfl⟩
          by_cases hk : k < ds.length
          · refine br_t (show decide ((k : Int) < (c : Int)) = true from decide_eq_true (by omega)) ?_
            obtain ⟨d, hd⟩ : ∃ d, ds[k]? = some d := ⟨_, List.getElem?_eq_getElem hk⟩
            have hdb := hdsb d (List.mem_of_getElem? hd)
            obtain ⟨s2, c2⟩ := b_elt hcl hd
            refine need_i ⟨s2, (show (0 : Int) ≤ k by omega), (show (k : Int) < c by omega)⟩ ?_
            refine ⟨⟨[d], [], [], [], []⟩, fun ids => c2 _ (hcne _ rfl), ⟨rfl, oneNil⟩, ?_⟩
            intro ids w2 hp hf
            have hv : valB (ds.take k) < 2 ^ 56 := by
              have h1 := valB_lt (ds := ds.take k) (fun b q => hdsb b (List.mem_of_mem_take q))
              rw [List.length_take, Nat.min_eq_left (by omega)] at h1
              have h2 : (256 : Nat) ^ k ≤ 256 ^ 7 := Nat.pow_le_pow_right (by decide) (by omega)
              exact Nat.lt_of_lt_of_le h1 (by simpa using h2)
            have hwk : IntKind.i64.wrap ((k : Int) + 1) = ((k + 1 : Nat) : Int) := by rw [wrap_i64 (by omega)]; omega
            refine ⟨HX.nil, HXok.none _ _, _, rfl, ⟨k + 1, by omega, ?_, rfl⟩, ?_⟩
            · rw [valB_step hd, ← or_byte hv hdb, ← hwk]; rfl
            · show ds.length - (IntKind.i64.wrap ((k : Int) + 1)).toNat < ds.length - ((k : Int)).toNat
              rw [hwk]; omega
          · refine br_f (show decide ((k : Int) < (c : Int)) = false from decide_eq_false (by omega)) ?_
            obtain rfl : k = ds.length := by omega
            rw [List.take_length]
            have hv64 : valB ds < 2 ^ 64 := by
              have h1 := valB_lt hdsb
              have h2 : (256 : Nat) ^ ds.length ≤ 256 ^ 8 := Nat.pow_le_pow_right (by decide) (by omega)
              exact Nat.lt_of_lt_of_le h1 (by simpa using h2)
            refine node_val ⟨[((nlen (valB ds) + 1 : Nat) : Int)], [], [], [], []⟩ (fun w => size_any hv64 w) (fun _ => rfl) (fun _ => rfl) rfl rfl rfl oneNil ?_
            have hcw : ifn .add .i64 (IntKind.i64.wrap (c : Int)) 1 = ((c + 1 : Nat) : Int) := by
              show IntKind.i64.wrap (IntKind.i64.wrap (c : Int) + 1) = _
              rw [hnw, wrap_i64 (by omega)]; omega
            have hrd : ∀ q : Prop, readN (bs.drop ix) 0 = (if nlen (valB ds) ≠ c then (bs.drop ix, 11, 0) else ((bs.drop (ix + 1)).drop c, 0, valB ds)) := fun _ => by
              rw [hdr]; unfold readN; rw [if_neg (by simp)]; dsimp only
              rw [Int.toNat_natCast, if_neg h8, if_neg hs, ← hds]
            have hrd := hrd True
            by_cases hz : nlen (valB ds) = c
            · refine br_f (show (((nlen (valB ds) + 1 : Nat) : Int) != ifn .add .i64 (IntKind.i64.wrap (c : Int)) 1) = false by rw [hcw, hz]; simp) ?_
              rw [if_neg (by simpa using hz), List.drop_drop] at hrd
              refine done _ 0 (valB ds) hrd (by rw [List.length_drop]; omega) (fun _ => rfl) (fun _ => ?_)
              show [Value.slice a bs.length cap, .int .i64 (IntKind.i64.wrap ((ix : Int) + ifn .add .i64 (IntKind.i64.wrap (c : Int)) 1)), .int .i64 0] = _
              rw [hcw, wrap_i64 (by omega)]
              unfold rcells
              rw [List.length_drop]
              congr 3; omega
            · refine br_t (show (((nlen (valB ds) + 1 : Nat) : Int) != ifn .add .i64 (IntKind.i64.wrap (c : Int)) 1) = true by rw [hcw]; simp only [bne_iff_ne]; omega) ?_
              rw [if_pos hz] at hrd
              exact done (bs.drop ix) 11 0 hrd (by rw [hdl]; omega) (fun _ => rfl) (fun _ => by rw [hself]; rfl)
  · refine br_t (show (bad != 0) = true by simpa using h0) ?_
    exact done (bs.drop ix) bad 0 (by unfold readN; rw [if_pos h0]) (by rw [hdl]; omega) (fun _ => rfl) (fun _ => by rw [hself]; rfl)
end Go.Proofs.Ytadgaefmoobcoaa
