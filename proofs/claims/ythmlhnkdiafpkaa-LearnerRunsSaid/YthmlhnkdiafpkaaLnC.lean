/- Known, Next, Pass, Size, New. -/
import Derived.Test.YthmlhnkdiafpkaaLnB
namespace Go.Proofs.Ythmlhnkdiafpkaa
open Go.ChangeShapes Go.WideShapes Go.ChangeAt Go.RowKit Go.Syn Go.Eng Go.MapKept
set_option linter.unusedVariables false
set_option linter.unusedSimpArgs false
set_option maxRecDepth 100000
section
variable {L : Ln} {D : LD} {nb : Nat} {w w' : World} {slot : Int}
theorem known_any (hB : Blk w nb (lnC L D) 77) (hX : D.At w) (hok : LOk L D) (hnb : ¬ D.F nb) (hD : ∀ k, D.F k → k < w.heap.size) :
    Calls Try.prog 21 #[.pointer (some ⟨nb, 0, none⟩), .int .i64 slot] w (VlNew w (fun x => .tuple #[x, .bool (L.known slot).2]) (L.known slot).1) := by
  obtain ⟨g1, g2, g3, g4⟩ := hok.got slot
  refine calls_at (tab_ok _) Try.func21 rfl tLKnown (ρ := ⟨[L.next, L.top, slot], [], [.map (some D.bv), .map (some D.bd)], [L.mem.length, D.cm], [D.am]⟩) (ids := [nb]) (hx := D.X) rfl (Facts.initx (M := fun x => x = nb) rfl (fun v hv => by simp only [List.mem_cons, List.not_mem_nil, or_false] at hv; rcases hv with rfl | rfl <;> rfl) hB rfl rfl hX (fun k hk => ⟨hD k hk, fun e => hnb (e ▸ hk)⟩)) ?_
  refine node_vlook (z := vlV vz none 0 none 0) (mt := 75) (kt := 3) (et := 32) ⟨[(D.got slot).v.k], [(L.known slot).2], [], [(D.got slot).v.cs.length, (D.got slot).c1, (D.got slot).v.ns.length, (D.got slot).c2], [(D.got slot).a1, (D.got slot).a2]⟩ D.bd (mmap Pv.val D.ds) slot (fun w h => h.d) (by intros; kernel_rfl) (by intros; kernel_rfl) Try.underlying75 Try.underlying3 zero_val (fun ids => ?_) (by kernel_rfl) (by kernel_rfl) (by kernel_rfl) oneNil ?_
  · rw [vlk_is, g3]
    show Value.tuple #[(D.got slot).val, .bool (L.known slot).2] = _
    rw [g2, mlk_map, Option.isSome_map]
  refine node_vl (V := id) (v := (D.got slot).v) (fun _ => #[(D.got slot).val]) (fun b1 d1 b2 d2 => ⟨[(D.got slot).v.k], [], [], [(D.got slot).v.cs.length, d1, (D.got slot).v.ns.length, d2], [b1, b2]⟩) (by intros; kernel_rfl) (fun ids w2 hp hf => vclone_any _ _ _ _ _ w2 (hok.gotX slot hf.x)) (by intros; kernel_rfl) (by kernel_rfl) (by kernel_rfl) (by intros; kernel_rfl) (fun _ _ _ _ => oneNil) ?_
  intro b1 d1 b2 d2 hfr ids w2 hp hf
  rw [← g1]
  exact ⟨b1, d1, b2, d2, rfl, hf.x.2, fun k hk => (hfr k hk).1, (hf.chg.same (hf.same1 hp hB rfl)).below⟩
theorem lnext_any (hB : Blk w nb (lnC L D) 77) (hX : D.At w) (hok : LOk L D) (hnb : ¬ D.F nb) (hD : ∀ k, D.F k → k < w.heap.size) :
    Calls Try.prog 13 #[.pointer (some ⟨nb, 0, none⟩)] w (VlNew w (fun x => .tuple #[.int .i64 L.next, x, .bool (L.known L.next).2]) (L.known L.next).1) := by
  obtain ⟨g1, g2, g3, g4⟩ := hok.got L.next
  refine calls_at (tab_ok _) Try.func13 rfl tLNext (ρ := ⟨[L.next, L.top], [], [.map (some D.bv), .map (some D.bd)], [L.mem.length, D.cm], [D.am]⟩) (ids := [nb]) (hx := D.X) rfl (Facts.initx (M := fun x => x = nb) rfl (fun v hv => by simp only [List.mem_cons, List.not_mem_nil, or_false] at hv; rcases hv with rfl | rfl <;> rfl) hB rfl rfl hX (fun k hk => ⟨hD k hk, fun e => hnb (e ▸ hk)⟩)) ?_
  refine par_i ?_ ?_
  all_goals
    refine node_vlook (z := vlV vz none 0 none 0) (mt := 75) (kt := 3) (et := 32) ⟨[(D.got L.next).v.k], [(L.known L.next).2], [], [(D.got L.next).v.cs.length, (D.got L.next).c1, (D.got L.next).v.ns.length, (D.got L.next).c2], [(D.got L.next).a1, (D.got L.next).a2]⟩ D.bd (mmap Pv.val D.ds) L.next (fun w h => h.d) (by intros; kernel_rfl) (by intros; kernel_rfl) Try.underlying75 Try.underlying3 zero_val (fun ids => ?_) (by kernel_rfl) (by kernel_rfl) (by kernel_rfl) oneNil ?_
    · rw [vlk_is, g3]
      show Value.tuple #[(D.got L.next).val, .bool (L.known L.next).2] = _
      rw [g2, mlk_map, Option.isSome_map]
    refine node_vl (V := id) (v := (D.got L.next).v) (fun _ => #[(D.got L.next).val]) (fun b1 d1 b2 d2 => ⟨[(D.got L.next).v.k], [], [], [(D.got L.next).v.cs.length, d1, (D.got L.next).v.ns.length, d2], [b1, b2]⟩) (by intros; kernel_rfl) (fun ids w2 hp hf => vclone_any _ _ _ _ _ w2 (hok.gotX L.next hf.x)) (by intros; kernel_rfl) (by kernel_rfl) (by kernel_rfl) (by intros; kernel_rfl) (fun _ _ _ _ => oneNil) ?_
    intro b1 d1 b2 d2 hfr ids w2 hp hf
    rw [← g1]
    exact ⟨b1, d1, b2, d2, rfl, hf.x.2, fun k hk => (hfr k hk).1, (hf.chg.same (hf.same1 hp hB rfl)).below⟩
theorem pass_any (F : Nat → Prop) (H0 : (HX.obj F (LnO nb L)).X w) (hF : ∀ k, F k → k < w.heap.size) (hinv : LnInv L) :
    Calls Try.prog 15 #[.pointer (some ⟨nb, 0, none⟩)] w (LnMut w F nb L.pass.1 (.bool L.pass.2)) := by
  obtain ⟨D, hok, hnb, hB, hX, Fnb, hsub⟩ := obj_open H0
  refine calls_at (tab_ok _) Try.func15 rfl tLPass (ρ := ⟨[L.next, L.top], [], [.map (some D.bv), .map (some D.bd)], [L.mem.length, D.cm], [D.am]⟩) (ids := [nb]) (hx := D.X) rfl (Facts.initx (M := F) rfl (fun v hv => by simp only [List.mem_cons, List.not_mem_nil, or_false] at hv; rcases hv with rfl | rfl <;> rfl) hB rfl Fnb hX (fun k hk => ⟨hF k (hsub k hk), fun e => hnb (e ▸ hk)⟩)) ?_
  refine node_vl (V := fun x => .tuple #[.int .i64 L.next, x, .bool (L.known L.next).2]) (v := (L.known L.next).1) (fun ids => #[.pointer (some ⟨idAt ids 0, 0, none⟩)]) (fun b1 d1 b2 d2 => ⟨[L.next, (L.known L.next).1.k], [(L.known L.next).2], [], [(L.known L.next).1.cs.length, d1, (L.known L.next).1.ns.length, d2], [b1, b2]⟩) (by intros; kernel_rfl) (fun ids w2 hp hf => ?_) (by intros; kernel_rfl) (by kernel_rfl) (by kernel_rfl) (by intros; kernel_rfl) (fun _ _ _ _ => oneNil) ?_
  · have hb := hf.blk 0 _ _ rfl
    rw [idAt0 hp] at hb ⊢
    exact lnext_any hb hf.x hok hnb fun k hk => (hf.sep k hk).1
  intro b1 d1 b2 d2 hfr
  refine br_B (L.known L.next).2 (by kernel_rfl) (fun h => ?_) (fun h => ?_)
  · have e : L.pass = ({ L with next := L.next + 1 }, true) := by unfold Ln.pass; rw [if_pos (show (mlk L.de L.next).isSome = true from h)]
    rw [e]
    have n1 := hinv.next1
    have n2 := hinv.next2
    have hok2 : LOk { L with next := L.next + 1 } D := ⟨hok.de, hok.vo, hok.gm, hok.gd, hok.gv, hok.ne, hok.nv, hok.nn, hok.ng⟩
    refine ln_done hok2 (fun w h => h.1) (fun k hk => .inl hk) (fun k hk => .inl (hsub k hk)) Fnb (fun ids => ?_) (by intros; kernel_rfl)
    unfold lnC
    rw [← wrap_i64 (x := L.next + 1) (by omega)]; kernel_rfl
  · have e : L.pass = (L, false) := by unfold Ln.pass; rw [if_neg (by intro q; have : (L.known L.next).2 = true := q; rw [this] at h; cases h)]
    rw [e]
    exact ln_done hok (fun w h => h.1) (fun k hk => .inl hk) (fun k hk => .inl (hsub k hk)) Fnb (by intros; kernel_rfl) (by intros; kernel_rfl)
theorem lsize_any (hB : Blk w nb (lnC L D) 77) (hX : D.At w) (hok : LOk L D) (hinv : LnInv L) (hnb : ¬ D.F nb) (hD : ∀ k, D.F k → k < w.heap.size) :
    Calls Try.prog 16 #[.pointer (some ⟨nb, 0, none⟩)] w (PureAt w (.int .i64 (L.size : Int))) := by
  refine calls_at (tab_ok _) Try.func16 rfl tLSize (ρ := ⟨[L.next, L.top], [], [.map (some D.bv), .map (some D.bd)], [L.mem.length, D.cm], [D.am]⟩) (ids := [nb]) (hx := D.X) rfl (Facts.initx (M := fun x => x = nb) rfl (fun v hv => by simp only [List.mem_cons, List.not_mem_nil, or_false] at hv; rcases hv with rfl | rfl <;> rfl) hB rfl rfl hX (fun k hk => ⟨hD k hk, fun e => hnb (e ▸ hk)⟩)) ?_
  obtain ⟨l1, l2⟩ := hinv.lens
  have e1 : (mmap InM.val D.vs).length = L.vo.length := by rw [hok.vo]; unfold mmap; rw [List.length_map, List.length_map]
  have e2 : (mmap Pv.val D.ds).length = L.de.length := by rw [hok.de]; unfold mmap; rw [List.length_map, List.length_map]
  refine node_vlen (mt := 74) ⟨[(L.vo.length : Int)], [], [], [], []⟩ rfl D.bv (mmap InM.val D.vs) (fun w h => h.v) (by intros; kernel_rfl) Try.underlying74 (by rw [e1]; intros; kernel_rfl) (by omega) (by kernel_rfl) (by kernel_rfl) (by kernel_rfl) oneNil ?_
  refine node_vlen (mt := 75) ⟨[(L.de.length : Int)], [], [], [], []⟩ rfl D.bd (mmap Pv.val D.ds) (fun w h => h.d) (by intros; kernel_rfl) Try.underlying75 (by rw [e2]; intros; kernel_rfl) (by omega) (by kernel_rfl) (by kernel_rfl) (by kernel_rfl) oneNil ?_
  refine pure1_done hB (fun ids => ?_) (by intros; kernel_rfl)
  show Value.int .i64 (IntKind.i64.wrap ((L.vo.length : Int) + (L.de.length : Int))) = _
  rw [wrap_i64 (by omega)]
  unfold Ln.size
  congr 1
/-- What New does. -/
def LnNew (w : World) (L' : Ln) (e : Ending) (w' : World) : Prop := ∃ nb F', e = .returned (.pointer (some ⟨nb, 0, none⟩)) ∧ (HX.obj F' (LnO nb L')).X w' ∧ (∀ k, F' k → w.heap.size ≤ k ∧ k < w'.heap.size) ∧ Below w.heap.size w w'
theorem lnew_any (a : Option Addr) (cap : Nat) (mem : List Int) (next : Int) (w : World) (H : Ints w a mem) :
    Calls Try.prog 9 #[.slice a mem.length cap, .int .i64 next] w (fun e w' => if setOkB mem = true ∧ 1 ≤ next ∧ next ≤ 1099511627776 then LnNew w (Ln.new mem next) e w' else PureAt w (.pointer none) e w') := by
  refine calls_at (tab_ok _) Try.func9 rfl tLNew (ρ := ⟨[next], [], [], [mem.length, cap], [a]⟩) (ids := []) (hx := HX.ints a mem) rfl (Facts.initq rfl oneNil H (fun k hk => by rw [hk.2]; exact (H.at_ (List.length_pos_iff.2 hk.1)).2.1)) ?_
  refine node_PI ⟨[checkV mem], [], [], [], []⟩ (fun _ => #[.slice a mem.length cap]) (.int .i64 (checkV mem)) (by intros; kernel_rfl) (by intros; kernel_rfl) (by kernel_rfl) (by kernel_rfl) (by kernel_rfl) oneNil (fun ids w2 hp hf => pure_same (check_any a cap mem w2 hf.x)) ?_
  have no : ∀ {m : Mem} {ρ : Env} {pre : List Nat} {hx : HX} {S : Stack}, ¬ (setOkB mem = true ∧ 1 ≤ next ∧ next ≤ 1099511627776) → (Tree.done (.lf .nilp) m).holds ⟨Try.prog, w, fun _ => False, fun e w' => if setOkB mem = true ∧ 1 ≤ next ∧ next ≤ 1099511627776 then LnNew w (Ln.new mem next) e w' else PureAt w (.pointer none) e w'⟩ ρ pre hx S := fun h ids w2 hp hf => by
    show ite _ _ _
    rw [if_neg h]
    exact ⟨rfl, hf.chg.below⟩
  refine br_B (checkV mem != 0) (by kernel_rfl) (fun h => no fun q => ?_) (fun h => ?_)
  · have : checkV mem = 0 := by unfold checkV; rw [if_pos q.1]
    rw [this] at h; exact absurd h (by decide)
  have h1 : setOkB mem = true := by
    cases e : setOkB mem with
    | true => rfl
    | false => exfalso; have : checkV mem = 24 := by unfold checkV; rw [if_neg (by rw [e]; decide)]
               rw [this] at h; exact absurd h (by decide)
  refine br_D (p := next < 1) (by kernel_rfl) (fun h => no fun q => by omega) (fun h2 => ?_)
  refine br_D (p := next > 1099511627776) (by kernel_rfl) (fun h => no fun q => by omega) (fun h3 => ?_)
  have hS := setOkB_iff.1 h1
  refine node_appnil (st := 73) (st2 := 26) (e := 3) (e2 := 3) rfl Try.underlying73 Try.underlying26 info_int1 a cap mem (fun w h => h) hS.1 (by have := hS.2.1; omega) (by intros; kernel_rfl) (by intros; kernel_rfl) (by intros; kernel_rfl) (by kernel_rfl) (by kernel_rfl) (by intros; kernel_rfl) ?_
  intro i cap' hi1 hi2
  refine node_vmake (by intros; kernel_rfl) (by kernel_rfl) (by kernel_rfl) (by intros; kernel_rfl) ?_
  intro bv hv1 hv2
  refine node_vmake (by intros; kernel_rfl) (by kernel_rfl) (by kernel_rfl) (by intros; kernel_rfl) ?_
  intro bd hd1 hd2 ids w2 hp hf
  show ite _ _ _
  rw [if_pos ⟨h1, by omega, by omega⟩]
  have hb := hf.blk 0 _ _ rfl
  have h0 : idAt ids 0 ∈ ids := idAt_mem (by rw [hf.len]; exact Nat.zero_lt_one)
  have hid := hf.own _ h0
  have hid : w.heap.size ≤ idAt ids 0 := hid.elim id False.elim
  have hne : mem ≠ [] := List.length_pos_iff.1 hS.1
  have Fi : (HX.ints (some ⟨i, 0, none⟩) mem).F i := ⟨hne, rfl⟩
  have s1 := hf.sep i (.inl (.inl (.inr Fi)))
  have s2 := hf.sep bv (.inl (.inr rfl))
  have s3 := hf.sep bd (.inr rfl)
  have n1 : bv ≠ i := fun e => hv2 (.inr (e ▸ Fi))
  have n2 : bd ≠ i := fun e => hd2 (.inl (.inr (e ▸ Fi)))
  have n3 : bd ≠ bv := fun e => hd2 (.inr e)
  refine ⟨idAt ids 0, fun k => k = idAt ids 0 ∨ k = i ∨ k = bv ∨ k = bd, rfl, ⟨_, ⟨⟨some ⟨i, 0, none⟩, cap', bv, bd, [], [], [HX.ints (some ⟨i, 0, none⟩) mem]⟩, ⟨rfl, rfl, .head _, (fun p hp => by cases hp), (fun p hp => by cases hp), fun e => n3 e.symm, (fun p hp => by cases hp), List.nodup_nil, fun x hx k hk => ?_⟩, fun hk => ?_, rfl⟩, ⟨hb, ⟨hf.x.2, hf.x.1.2, (fun p hp => by cases hp), fun x hx => ?_⟩⟩, fun k hk => ?_⟩, fun k hk => ?_, hf.chg.below⟩
  · obtain rfl := List.mem_singleton.1 hx
    obtain ⟨_, rfl⟩ := hk
    exact ⟨fun e => n1 e.symm, fun e => n2 e.symm, (fun p hp => by cases hp)⟩
  · rcases hk with e | e | ⟨p, hp, _⟩ | ⟨x, hx, hk⟩
    · have e : idAt ids 0 = bv := e
      exact s2.2 (by rw [← e]; exact h0)
    · have e : idAt ids 0 = bd := e
      exact s3.2 (by rw [← e]; exact h0)
    · cases hp
    · obtain rfl := List.mem_singleton.1 hx
      exact s1.2 (by have : idAt ids 0 = i := hk.2; rw [← this]; exact h0)
  · obtain rfl := List.mem_singleton.1 hx
    exact hf.x.1.1.2
  · rcases hk with e | e | e | ⟨p, hp, _⟩ | ⟨x, hx, hk⟩
    · exact .inl e
    · exact .inr (.inr (.inl e))
    · exact .inr (.inr (.inr e))
    · cases hp
    · obtain rfl := List.mem_singleton.1 hx
      exact .inr (.inl hk.2)
  · rcases hk with rfl | rfl | rfl | rfl
    · exact ⟨hid, hf.id_lt h0⟩
    · exact ⟨hi1, s1.1⟩
    · exact ⟨hv1, s2.1⟩
    · exact ⟨hd1, s3.1⟩
end
end Go.Proofs.Ythmlhnkdiafpkaa
