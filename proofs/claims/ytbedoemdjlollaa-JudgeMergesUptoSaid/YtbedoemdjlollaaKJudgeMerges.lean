/- The statement's proof; the walk stands in the texts that are imported. -/
import Derived.Test.YtbedoemdjlollaaRows
import Derived.WalkKit
import Derived.ProofKit
import Derived.OpenShut
import Derived.ShutString
import Derived.ChangeOld
import Derived.Below
import Derived.SizedLaws
import Derived.Lib.SmallJoins
import Derived.JoinedCond
import Derived.Deep.CondSized
import Derived.Test.YtbedoemdjlollaaKJudgeMerges21
namespace Go.Proofs.Ytbedoemdjlollaa.judgeMergesUpto
open Go.ChangeShapes Go.WideShapes Go.ChangeAt Go.RowKit Go.Syn
open Go.ChangeMaps (open_string shut_string)
set_option linter.unusedVariables false

theorem own : ownKnob Try.prog.godebug = none := by kernel_rfl
theorem laidOut : laidOutB Try.prog = true := by kernel_rfl
theorem bytesI : Try.prog.bytesOf 3 = 8 := by kernel_rfl

set_option maxRecDepth 100000 in
theorem bulk_slice {H : Type} {enc : TypeId × Value → H} {W : World} {base : Nat} {spare : Nat → Bool} {held : Bool} {t e : TypeId} {a : Option Addr} {len cap : Nat} {d : DataW H} {p : List MemPlace} (hu : Try.prog.underlying t = some (.slice e)) (h : DataW.Trod enc Try.prog W base spare held t (.slice a len cap) d p) : len ≤ Rows.uptoBulk d := by
  obtain ⟨fuel, hf⟩ := h
  rcases DataW.trod_slice hu hf with ⟨hcs, hx⟩ | ⟨a2, len2, cap2, elems, rest, f, _, hcs, hx, _, hlc, hcap, hlen, hel, _, _⟩
  · simp [Value.cells] at hcs
    omega
  · simp [Value.cells] at hcs
    obtain ⟨rfl, rfl, rfl⟩ := hcs
    have hd : d = .slice (elems.map (·.1)) (rest.map (·.1)) := (Prod.mk.inj hx).1
    subst hd
    have one : ∀ d : DataW H, 1 ≤ Rows.uptoBulk d := fun d => by
      cases d with
      | lit l => cases l <;> simp [Rows.uptoBulk]
      | _ => simp [Rows.uptoBulk]
    have all : ∀ l : List (DataW H), l.length ≤ Rows.uptoBulkAll l := fun l => by
      induction l with
      | nil => simp [Rows.uptoBulkAll]
      | cons x r ih => have := one x; simp only [Rows.uptoBulkAll, List.length_cons]; omega
    have := all (elems.map (·.1))
    rw [List.length_map] at this
    simp only [Rows.uptoBulk]
    omega
theorem bulk_sum {H : Type} : ∀ (ls : List Nat) (es : List (DataW H × List MemPlace)), (∀ (i l : Nat), ls[i]? = some l → ∃ x, es[i]? = some x ∧ l ≤ Rows.uptoBulk x.1) → ls.sum ≤ Rows.uptoBulkAll (es.map (·.1))
  | [], es, _ => by simp
  | l :: r, es, h => by
    obtain ⟨x, hx, hl⟩ := h 0 l rfl
    cases es with
    | nil => cases hx
    | cons y es =>
      cases hx
      have := bulk_sum r es (fun i k hk => h (i + 1) k hk)
      simp only [List.sum_cons, List.map_cons, Rows.uptoBulkAll]
      omega
theorem bulk_slices {H : Type} {enc : TypeId × Value → H} {W : World} {base : Nat} {spare : Nat → Bool} {held : Bool} {t e e2 : TypeId} {a : Option Addr} {len cap : Nat} {d : DataW H} {p : List MemPlace} (hu : Try.prog.underlying t = some (.slice e)) (he : Try.prog.underlying e = some (.slice e2)) (hc : Try.prog.cellsOf e = 1) (h : DataW.Trod enc Try.prog W base spare held t (.slice a len cap) d p) : NestLe W a len (Rows.uptoBulk d) := by
  intro hpl ls hl hcells
  obtain ⟨fuel, hf⟩ := h
  rcases DataW.trod_slice hu hf with ⟨hcs, hx⟩ | ⟨a2, len2, cap2, elems, rest, f, _, hcs, hx, hb, hlc, hcap, hlen, hel, _, _⟩
  · simp [Value.cells] at hcs
    obtain ⟨rfl, rfl, rfl⟩ := hcs
    rw [List.length_eq_zero_iff.1 hl]
    simp
  · simp [Value.cells] at hcs
    obtain ⟨rfl, rfl, rfl⟩ := hcs
    have hd : d = .slice (elems.map (·.1)) (rest.map (·.1)) := (Prod.mk.inj hx).1
    subst hd
    have ha : a2 = ⟨blk (some a2), ofs (some a2), none⟩ := Option.some.inj hpl
    have hs := bulk_sum ls elems (fun i l hi => by
      obtain ⟨hlt, _⟩ := List.getElem?_eq_some_iff.1 hi
      obtain ⟨x, c, hx2⟩ := hcells i l hi
      have had : a2.add (i * 1) = ⟨blk (some a2), ofs (some a2) + i, none⟩ := by
        conv => lhs; rw [ha]
        rw [Go.WideShapes.add_plain, Nat.mul_one]
      have hbb : base ≤ (a2.add (i * 1)).block := by rw [had]; exact hb
      have h2 := cells?_one hbb (by rw [had]; exact hx2)
      have h1 := hel i (by omega)
      rw [hc, h2, Option.bind_some] at h1
      obtain ⟨y, hy⟩ : ∃ y, elems[i]? = some y := ⟨_, List.getElem?_eq_getElem (by omega)⟩
      rw [hy] at h1
      exact ⟨y, hy, bulk_slice he (a := x) (len := l) (cap := c) (p := y.2) ⟨f, h1⟩⟩)
    simp only [Rows.uptoBulk]
    omega
set_option maxRecDepth 100000 in
theorem lifted (os : Os) (started : os.Started) (H : Type) (enc : TypeId × Value → H) (F : Stop.Interp) :
    ReturnsInHanded {} Try.checked os 3 .any ((Rows.OpenSpec.upto Rows.judgeMergesSpec).pre6 enc Try.prog Try.f3 Rows.judgeMergesUptoRow.domain false) (((Rows.OpenSpec.upto Rows.judgeMergesSpec).at F).post enc Try.prog Try.f3 false true false false) := by
  refine returnsInHanded_of_cond_sized (C := Try.checked) (s := Rows.OpenSpec.upto Rows.judgeMergesSpec) (k := Rows.uptoSmall) rfl own started (by kernel_rfl) Try.func3
    (OpenSpec.witness (enc := enc) (C := Try.checked) (s := Rows.OpenSpec.upto Rows.judgeMergesSpec) (k := Rows.uptoSmall) rfl false ⟨#[], #[.slice none 0 0], []⟩ 8 (by kernel_rfl) (by kernel_rfl) (by kernel_rfl)
      (x := ([.nil], [], [])) (by kernel_rfl) rfl (by kernel_rfl)) ?_
  intro W base args ds gs before hval0 hW hcnd hk0 hsz0 _
  have hval : ∀ (j : Nat) t v, Try.f3.params[j]? = some t → args[j]? = some v → Value.okWide Try.prog W .any base t v := hval0
  have hsz : (DataW.weightsEach Try.prog (Try.f3.params.toList ++ Rows.judgeMergesSpec.plain.varTypes Try.prog) (ds ++ gs)).all (· ≤ reachBytes) = true := hsz0
  have hW' := hW
  obtain ⟨p, q, hA0, hV, rfl, hfz, hnd⟩ := hW
  have hA : DataW.TrodAll enc Try.prog W 0 (fun _ => true) true Try.f3.params.toList args.toList ds p := hA0
  rw [Try.params3] at hA hval hsz
  obtain ⟨v0, vs0, d0, ds0, p0, q0, hargs, rfl, rfl, h0, r0⟩ := trodAll_cons hA
  obtain ⟨rfl, rfl, rfl⟩ := trodAll_nil r0
  obtain rfl : args = #[v0] := by cases args; simp_all
  obtain ⟨rfl, rfl⟩ := trodVars_none hV
  have hB : Rows.uptoBulkAll (H := H) ([d0] ++ []) ≤ 1048576 := of_decide_eq_true hk0
  simp only [Rows.uptoBulkAll, List.append_nil] at hB
  have k0 := h0
  have lt0 : ∀ x ∈ p0, x.block < W.heap.size := by obtain ⟨m, hm⟩ := k0; exact DataW.trod_lt m _ _ _ hm
  obtain ⟨a0, len0, cap0, rfl⟩ := okWide_slice Try.underlying22 (hval 0 22 v0 rfl rfl)
  obtain ⟨x0, xc0, xi0⟩ := datArg laidOut 30 (by kernel_rfl) h0 (sized_arg hsz (j := 0) rfl rfl)
  obtain ⟨b0, kap0, ds0', rfl, g0a, g0b, g0c, g0d, g0e⟩ := in_slice Try.underlying22 xi0
  simp only [Dat.cells, Value.cells, List.cons.injEq, Value.slice.injEq, and_true] at xc0
  obtain ⟨rfl, rfl, rfl⟩ := xc0
  have hB0 := bulk_slice Try.underlying22 h0
  have hN0 : NestLe W b0 ds0'.length 1048576 := fun hp ls h1 h2 => Nat.le_trans (bulk_slices Try.underlying22 Try.underlying24 (by kernel_rfl) h0 hp ls h1 h2) (by omega)
  clear hA0 hval0
  refine (merges_args b0 kap0 ds0' W g0d g0e (Nat.le_trans g0a (Nat.le_trans g0b (by unfold maxLen; omega))) g0c (by omega) hN0).mono fun e W' ⟨he, bel⟩ => ?_
  subst he
  exact ⟨_, rfl, _, _, _, [], _, [], hW', trodAll_mk1 (shut_bool Try.underlying4 _), (trodAll_cons_mk (Below.trod laidOut (by kernel_rfl) (of_decide_eq_true (by kernel_rfl)) k0 bel lt0) trodAll_mk0), rfl, bel.frame _, fun h => by cases h⟩

theorem proved : Rows.JudgeMergesUptoSaid :=
  OpenClaim.holds_of_cond 3 Try.f3 rfl rfl rfl rfl rfl rfl rfl ⟨rfl, rfl, rfl, rfl, rfl⟩ rfl rfl rfl rfl rfl (by kernel_rfl) Try.func3 (by kernel_rfl)
    (of_decide_eq_true (by kernel_rfl)) (by unfold Func.isWrapper; first | (rw [if_pos (by decide +kernel)]; kernel_rfl) | (rw [if_neg (by decide +kernel)]; exact ⟨rfl, rfl⟩))
    (fun os started H enc _ F => lifted os started H enc F)
#print axioms proved
end Go.Proofs.Ytbedoemdjlollaa.judgeMergesUpto
