/- Answers; the fetch's methods. -/
import Derived.Test.YtgphmdccmaibmaaFet
namespace Go.Proofs.Ytgphmdccmaibmaa
open Go.ChangeShapes Go.WideShapes Go.ChangeAt Go.RowKit Go.Syn Go.Eng
set_option linter.unusedVariables false
set_option linter.unusedSimpArgs false
set_option maxRecDepth 100000 in
theorem tFNew : (runF ⟨tt, fns, {}⟩ (Try.f8.body.getD .skip) Try.f8.results.toList (entry Try.f8.ntmps [] [] ⟨0, 0, 0, 0, 0⟩)) =
  (.done (.lf (.ptr 0 0)) ⟨[(61, [(.int .i64 (.lit 0)), (.int .i64 (.lit 0)), (.int .i64 (.lit 0)), (.cst (.string ⟨#[]⟩)), .nilsl])], ⟨0, 0, 0, 0, 0⟩⟩) := by kernel_rfl
theorem answer_yes (slot low : Int) (a : Option Addr) (cap : Nat) (bs : List Int) (w : World) (H : Cells w a (bcells bs)) (hl : bs.length ≤ 140737488351232) (hcap : bs.length ≤ cap) (hp : pieceB bs low ≠ []) :
    Calls Try.prog 13 #[.int .i64 slot, .slice a bs.length cap, .agg (msgV 11 slot low (.slice none 0 0))] w (NewD w (fun v => .tuple #[.agg (msgV 12 slot low v), .bool true]) (pieceB bs low)) := by
  refine calls_at (tab_ok _) Try.func13 rfl tAnswer (ρ := ⟨[11, slot, low, slot], [], [], [bs.length, cap], [a]⟩) (ids := []) (hx := HX.cl a (bcells bs)) rfl (Facts.initq rfl oneNil H (cl_sep H)) ?_
  refine node_newd (V := id) (bs := pieceB bs low) (fun a' c' => ⟨[], [], [], [(pieceB bs low).length, c'], [a']⟩) (fun ids w2 hp hf => (piece_any a cap bs low w2 hf.x hl hcap)) (fun _ _ _ => rfl) rfl rfl (fun _ _ => rfl) (fun _ _ => oneNil) ?_
  intro a1 c1 hc1 hn1
  refine br_f rfl (br_f (show (slot != slot) = false by simp) (br_f (show (((pieceB bs low).length : Int) == 0) = false by simpa using hp) ?_))
  intro ids w2 hp2 hf
  exact ⟨a1, c1, rfl, hf.x.2, fun hne => (hn1 hne).1, hc1, hf.chg.below⟩
/-- A fetch. -/
structure Ft where
  src : Int
  slot : Int
  size : Int
  sum : ByteArray
  got : List Int
def Ft.zero : Ft := ⟨0, 0, 0, ⟨#[]⟩, []⟩
def Ft.cells (f : Ft) (a : Option Addr) (cap : Nat) : List Value := [.int .i64 f.src, .int .i64 f.slot, .int .i64 f.size, .string f.sum, .slice a f.got.length cap]
/-- The bytes that are there. -/
def frow (a : Option Addr) (cap : Nat) (bs : List Int) : HX := HX.rw 1 5 a bs.length cap (bcells bs)
theorem frow_none (hx : HX) : hx.and (frow none 0 []) = hx := HX.ext (by
    funext k
    exact propext ⟨fun h => h.elim id fun h => absurd rfl h.1, .inl⟩) (by
    funext w
    exact propext ⟨fun h => h.1, fun h => ⟨h, HX.rw_nil _ _ _ _⟩⟩)
structure FetAt (w : World) (nb : Nat) (a : Option Addr) (cap : Nat) (f : Ft) : Prop where
  blk : Blk w nb (f.cells a cap) 61
  mem : (frow a cap f.got).X w
  sep : ∀ k, (frow a cap f.got).F k → k < w.heap.size ∧ k ≠ nb
/-- What a method of a fetch does. -/
def FR (w : World) (nb : Nat) (a : Option Addr) (cap : Nat) (f' : Ft) (img : List Int) (V : Value → Value) (e : Ending) (w' : World) : Prop :=
  ∃ a' cap' ai ci, e = .returned (V (.slice ai img.length ci)) ∧ Blk w' nb (f'.cells a' cap') 61 ∧ (HX.cl ai (bcells img)).X w' ∧ (frow a' cap' f'.got).X w' ∧ Chg (fun x => x = nb ∨ (cap ≠ 0 ∧ abk a = some x)) w w' ∧
    (∀ k, cap' ≠ 0 → abk a' = some k → ((cap ≠ 0 ∧ abk a = some k) ∨ w.heap.size ≤ k) ∧ ¬ (HX.cl ai (bcells img)).F k) ∧ (∀ k, (HX.cl ai (bcells img)).F k → (cap ≠ 0 ∧ abk a = some k) ∨ w.heap.size ≤ k)
theorem cl_nil_no (a : Option Addr) (k : Nat) : ¬ (HX.cl a (bcells [])).F k := fun h => h.1 rfl
section
variable {w : World} {nb : Nat} {a : Option Addr} {cap : Nat} {f' : Ft} {V : Value → Value} {v : SV} {ρ : Env} {hx : HX} {L : Stack} {cs : List LV} {r : List (Nat × List LV)} {n : Cnt}
/-- The fetch's row stays, or it is none. -/
theorem fet_keep (hv : ∀ ids, v.den ρ ids = V (.slice none 0 0)) (hcs : ∀ ids, cellsDen ρ ids cs = f'.cells a cap) (hX : ∀ w', hx.X w' → (frow a cap f'.got).X w') : (Tree.done v ⟨(61, cs) :: r, n⟩).holds ⟨Try.prog, w, fun x => x = nb ∨ (cap ≠ 0 ∧ abk a = some x), FR w nb a cap f' [] V⟩ ρ [nb] hx L := fun ids w' hp hf => by
  have h0 := hf.blkAt 0 rfl
  rw [idAt0 hp, hcs ids] at h0
  exact ⟨a, cap, none, 0, by rw [hv ids]; rfl, h0, fun q => by simp [bcells] at q, hX w' hf.x, hf.chg, fun k h1 h2 => ⟨.inl ⟨h1, h2⟩, cl_nil_no _ _⟩, fun k hk => absurd hk (cl_nil_no _ _)⟩
theorem fet_none (hv : ∀ ids, v.den ρ ids = V (.slice none 0 0)) (hcs : ∀ ids, cellsDen ρ ids cs = f'.cells none 0) (hg : f'.got = []) : (Tree.done v ⟨(61, cs) :: r, n⟩).holds ⟨Try.prog, w, fun x => x = nb ∨ (cap ≠ 0 ∧ abk a = some x), FR w nb a cap f' [] V⟩ ρ [nb] hx L := fun ids w' hp hf => by
  have h0 := hf.blkAt 0 rfl
  rw [idAt0 hp, hcs ids] at h0
  exact ⟨none, 0, none, 0, by rw [hv ids]; rfl, h0, (fun q => by simp [bcells] at q), (by rw [hg]; exact HX.rw_nil _ _ _ _), hf.chg, (fun k h1 => absurd rfl h1), (fun k hk => absurd hk (cl_nil_no _ _))⟩
end
theorem fnew_any (w : World) : Calls Try.prog 8 #[] w (NewB w 61 (Ft.zero.cells none 0)) := by
  refine calls_at (tab_ok _) Try.func8 rfl tFNew (ρ := ⟨[], [], [], [], []⟩) (ids := []) rfl (Facts.initP rfl oneNil) ?_
  exact new_done (k := 0) rfl (fun _ => rfl) (fun _ => rfl)
theorem drop_any (nb : Nat) (a : Option Addr) (cap : Nat) (f : Ft) (have_ : Int) (w : World) (H : FetAt w nb a cap f) : Calls Try.prog 17 #[.pointer (some ⟨nb, 0, none⟩), .int .i64 have_] w (FR w nb a cap (if f.slot ≤ have_ then Ft.zero else f) [] (fun _ => .tuple #[])) := by
  refine calls_at (tab_ok _) Try.func17 rfl tDrop (ρ := ⟨[f.src, f.slot, f.size, have_], [], [.string f.sum], [f.got.length, cap], [a]⟩) (ids := [nb]) (hx := frow a cap f.got) (M := fun x => x = nb ∨ (cap ≠ 0 ∧ abk a = some x)) rfl (Facts.initx rfl (fun v hv => by simp only [List.mem_singleton] at hv; subst hv; rfl) H.blk rfl (.inl rfl) H.mem H.sep) ?_
  by_cases h : f.slot ≤ have_
  · rw [if_pos h]
    exact br_t (show decide (f.slot ≤ have_) = true by simpa using h) (fet_none (fun _ => rfl) (fun _ => rfl) rfl)
  · rw [if_neg h]
    exact br_f (show decide (f.slot ≤ have_) = false by simpa using h) (fet_keep (fun _ => rfl) (fun _ => rfl) (fun _ h => h))
/-- What is pulled. -/
def pullV (f : Ft) : Value := if f.slot = 0 then .tuple #[.int .i64 0, .agg (msgV 0 0 0 (.slice none 0 0)), .bool false] else .tuple #[.int .i64 f.src, .agg (msgV 11 f.slot f.got.length (.slice none 0 0)), .bool true]
theorem pull_any (nb : Nat) (a : Option Addr) (cap : Nat) (f : Ft) (w : World) (H : Blk w nb (f.cells a cap) 61) : Calls Try.prog 12 #[.pointer (some ⟨nb, 0, none⟩)] w (PureAt w (pullV f)) := by
  refine calls_at (tab_ok _) Try.func12 rfl tPull (ρ := ⟨[f.src, f.slot, f.size], [], [.string f.sum], [f.got.length, cap], [a]⟩) (ids := [nb]) (hx := HX.nil) (M := fun x => x = nb) rfl (Facts.initx rfl (fun v hv => by simp only [List.mem_singleton] at hv; subst hv; rfl) H rfl rfl trivial (fun k hk => hk.elim)) ?_
  have fin : ∀ {ids w2 m ρ'} {cs : List LV} {r : List (Nat × List LV)} {c : Cnt}, [nb] <+: ids → m = (⟨(61, cs) :: r, c⟩ : Mem) → Facts ⟨Try.prog, w, fun x => x = nb, PureAt w (pullV f)⟩ m ρ' ids HX.nil w2 → (∀ ids, cellsDen ρ' ids cs = f.cells a cap) → Below w.heap.size w w2 := by
    intro ids w2 m ρ' cs r c hp hm hf hcs
    subst hm
    refine (hf.chg.same ?_).below
    have := hf.blkAt 0 rfl
    rw [idAt0 hp, hcs ids] at this
    exact this.trans H.symm
  by_cases h : f.slot = 0
  · refine br_t (show (f.slot == 0) = true by simpa using h) ?_
    intro ids w2 hp hf
    exact ⟨by unfold pullV; rw [if_pos h]; rfl, fin hp rfl hf (fun _ => rfl)⟩
  · refine br_f (show (f.slot == 0) = false by simpa using h) ?_
    intro ids w2 hp hf
    exact ⟨by unfold pullV; rw [if_neg h]; rfl, fin hp rfl hf (fun _ => rfl)⟩
section
variable {nb : Nat} {a : Option Addr} {cap : Nat} {f : Ft} {src slot low hv : Int} {ad : Option Addr} {cd : Nat} {d : List Int} {w : World}
theorem off_init (H : FetAt w nb a cap f) (Hd : Cells w ad (bcells d)) (hd : ∀ k, (HX.cl ad (bcells d)).F k → k ≠ nb) : ∀ k, ((HX.cl ad (bcells d)).and (frow a cap f.got)).F k → k < w.heap.size ∧ k ≠ nb := fun k hk => hk.elim (fun h => ⟨cl_sep Hd k h, hd k h⟩) (H.sep k)
set_option maxRecDepth 100000 in
theorem off_new (H : FetAt w nb a cap f) (Hd : Cells w ad (bcells d)) (hd : ∀ k, (HX.cl ad (bcells d)).F k → k ≠ nb) (h1 : hv < slot) (h2 : 1 ≤ low) (h3 : low ≤ 16384) (h4 : d.length = 8) (h5 : f.slot < slot) :
    Calls Try.prog 9 #[.pointer (some ⟨nb, 0, none⟩), .int .i64 src, .agg (msgV 10 slot low (.slice ad d.length cd)), .int .i64 hv] w (FR w nb a cap ⟨src, slot, low, strOfNums d, []⟩ [] (fun _ => .bool true)) := by
  refine calls_at (tab_ok _) Try.func9 rfl tOffered (ρ := ⟨[10, slot, low, f.src, f.slot, f.size, src, hv], [], [.string f.sum], [f.got.length, cap, d.length, cd], [a, ad]⟩) (ids := [nb]) (hx := (HX.cl ad (bcells d)).and (frow a cap f.got)) (M := fun x => x = nb ∨ (cap ≠ 0 ∧ abk a = some x)) rfl (Facts.initx rfl (fun v hv => by simp only [List.mem_singleton] at hv; subst hv; rfl) H.blk rfl (.inl rfl) ⟨Hd, H.mem⟩ (off_init H Hd hd)) ?_
  refine br_f rfl (br_f (show decide (slot ≤ hv) = false by simp; omega) (br_f (show decide (low < 1) = false by simp; omega) (br_f (show decide (low > 16384) = false by simp; omega) (br_f (show ((d.length : Int) != 8) = false by simp [h4]) ?_))))
  by_cases h6 : f.slot > 0
  · refine br_t (show decide (f.slot > 0) = true by simpa using h6) (br_f (show (slot == f.slot) = false by simp; omega) (br_f (show decide (slot ≤ f.slot) = false by simp; omega) ?_))
    refine node_text Try.underlying22 Try.underlying5 Try.underlying9 ad cd d (fun _ => rfl) (fun ids w2 hp hf => hf.x.1) (fun _ => rfl) rfl rfl rfl ?_
    exact fet_none (fun _ => rfl) (fun _ => rfl) rfl
  · refine br_f (show decide (f.slot > 0) = false by simpa using h6) (br_f (show decide (slot ≤ f.slot) = false by simp; omega) ?_)
    refine node_text Try.underlying22 Try.underlying5 Try.underlying9 ad cd d (fun _ => rfl) (fun ids w2 hp hf => hf.x.1) (fun _ => rfl) rfl rfl rfl ?_
    exact fet_none (fun _ => rfl) (fun _ => rfl) rfl
set_option maxRecDepth 100000 in
theorem off_low (H : FetAt w nb a cap f) (Hd : Cells w ad (bcells d)) (hd : ∀ k, (HX.cl ad (bcells d)).F k → k ≠ nb) (h1 : hv < slot) (h2 : 1 ≤ low) (h3 : low ≤ 16384) (h4 : d.length = 8) (h5 : slot < f.slot) (h0 : 0 < f.slot) :
    Calls Try.prog 9 #[.pointer (some ⟨nb, 0, none⟩), .int .i64 src, .agg (msgV 10 slot low (.slice ad d.length cd)), .int .i64 hv] w (FR w nb a cap f [] (fun _ => .bool false)) := by
  refine calls_at (tab_ok _) Try.func9 rfl tOffered (ρ := ⟨[10, slot, low, f.src, f.slot, f.size, src, hv], [], [.string f.sum], [f.got.length, cap, d.length, cd], [a, ad]⟩) (ids := [nb]) (hx := (HX.cl ad (bcells d)).and (frow a cap f.got)) (M := fun x => x = nb ∨ (cap ≠ 0 ∧ abk a = some x)) rfl (Facts.initx rfl (fun v hv => by simp only [List.mem_singleton] at hv; subst hv; rfl) H.blk rfl (.inl rfl) ⟨Hd, H.mem⟩ (off_init H Hd hd)) ?_
  refine br_f rfl (br_f (show decide (slot ≤ hv) = false by simp; omega) (br_f (show decide (low < 1) = false by simp; omega) (br_f (show decide (low > 16384) = false by simp; omega) (br_f (show ((d.length : Int) != 8) = false by simp [h4]) ?_))))
  refine br_t (show decide (f.slot > 0) = true by simpa using h0) (br_f (show (slot == f.slot) = false by simp; omega) (br_t (show decide (slot ≤ f.slot) = true by simp; omega) ?_))
  exact fet_keep (fun _ => rfl) (fun _ => rfl) (fun _ h => h.2)
set_option maxRecDepth 100000 in
theorem off_same (H : FetAt w nb a cap f) (Hd : Cells w ad (bcells d)) (hd : ∀ k, (HX.cl ad (bcells d)).F k → k ≠ nb) (h1 : hv < slot) (h2 : 1 ≤ low) (h3 : low ≤ 16384) (h4 : d.length = 8) (h5 : slot = f.slot) (h0 : 0 < f.slot) (h6 : low = f.size) (h7 : strOfNums d = f.sum) :
    Calls Try.prog 9 #[.pointer (some ⟨nb, 0, none⟩), .int .i64 src, .agg (msgV 10 slot low (.slice ad d.length cd)), .int .i64 hv] w (FR w nb a cap ⟨src, f.slot, f.size, f.sum, f.got⟩ [] (fun _ => .bool true)) := by
  refine calls_at (tab_ok _) Try.func9 rfl tOffered (ρ := ⟨[10, slot, low, f.src, f.slot, f.size, src, hv], [], [.string f.sum], [f.got.length, cap, d.length, cd], [a, ad]⟩) (ids := [nb]) (hx := (HX.cl ad (bcells d)).and (frow a cap f.got)) (M := fun x => x = nb ∨ (cap ≠ 0 ∧ abk a = some x)) rfl (Facts.initx rfl (fun v hv => by simp only [List.mem_singleton] at hv; subst hv; rfl) H.blk rfl (.inl rfl) ⟨Hd, H.mem⟩ (off_init H Hd hd)) ?_
  refine br_f rfl (br_f (show decide (slot ≤ hv) = false by simp; omega) (br_f (show decide (low < 1) = false by simp; omega) (br_f (show decide (low > 16384) = false by simp; omega) (br_f (show ((d.length : Int) != 8) = false by simp [h4]) ?_))))
  refine br_t (show decide (f.slot > 0) = true by simpa using h0) (br_t (show (slot == f.slot) = true by simp; omega) (br_t (show (low == f.size) = true by simp; omega) ?_))
  refine node_text Try.underlying22 Try.underlying5 Try.underlying9 ad cd d (fun _ => rfl) (fun ids w2 hp hf => hf.x.1) (fun _ => rfl) rfl rfl rfl ?_
  refine node_texteq (strOfNums d) f.sum (fun _ => rfl) (fun _ => rfl) (fun _ => rfl) rfl rfl rfl ?_
  refine br_t (show ((strOfNums d).toList == f.sum.toList) = true by rw [h7]; simp) ?_
  exact fet_keep (fun _ => rfl) (fun _ => rfl) (fun _ h => h.2)
/-! ### Parts -/
theorem part_bad (H : FetAt w nb a cap f) (Hd : Cells w ad (bcells d)) (hd : ∀ k, (HX.cl ad (bcells d)).F k → k ≠ nb) (hgl : f.got.length ≤ 1000000) (hsz : 0 ≤ f.size ∧ f.size ≤ 1000000) (h : f.slot = 0 ∨ slot ≠ f.slot ∨ low ≠ f.got.length ∨ d = [] ∨ f.size - f.got.length < d.length) :
    Calls Try.prog 14 #[.pointer (some ⟨nb, 0, none⟩), .agg (msgV 12 slot low (.slice ad d.length cd))] w (FR w nb a cap f [] (fun v => .tuple #[v, .int .i64 0, .int .i64 60])) := by
  refine calls_at (tab_ok _) Try.func14 rfl tPart (ρ := ⟨[12, slot, low, f.src, f.slot, f.size], [], [.string f.sum], [f.got.length, cap, d.length, cd], [a, ad]⟩) (ids := [nb]) (hx := (HX.cl ad (bcells d)).and (frow a cap f.got)) (M := fun x => x = nb ∨ (cap ≠ 0 ∧ abk a = some x)) rfl (Facts.initx rfl (fun v hv => by simp only [List.mem_singleton] at hv; subst hv; rfl) H.blk rfl (.inl rfl) ⟨Hd, H.mem⟩ (off_init H Hd hd)) ?_
  refine br_f rfl ?_
  by_cases c1 : f.slot = 0
  · exact br_t (show (f.slot == 0) = true by simpa using c1) (fet_keep (fun _ => rfl) (fun _ => rfl) (fun _ h => h.2))
  refine br_f (show (f.slot == 0) = false by simpa using c1) ?_
  by_cases c2 : slot ≠ f.slot
  · exact br_t (show (slot != f.slot) = true by simpa using c2) (fet_keep (fun _ => rfl) (fun _ => rfl) (fun _ h => h.2))
  refine br_f (show (slot != f.slot) = false by simp; omega) ?_
  by_cases c3 : low ≠ f.got.length
  · exact br_t (show (low != (f.got.length : Int)) = true by simpa using c3) (fet_keep (fun _ => rfl) (fun _ => rfl) (fun _ h => h.2))
  refine br_f (show (low != (f.got.length : Int)) = false by simp; omega) ?_
  by_cases c4 : d = []
  · exact br_t (show ((d.length : Int) == 0) = true by simp [c4]) (fet_keep (fun _ => rfl) (fun _ => rfl) (fun _ h => h.2))
  refine br_f (show ((d.length : Int) == 0) = false by simpa using c4) ?_
  have hwr : IntKind.i64.wrap (f.size - (f.got.length : Int)) = f.size - f.got.length := wrap_i64 (by omega)
  have h9 : f.size - f.got.length < d.length := by
    rcases h with h | h | h | h | h
    · exact absurd h c1
    · exact absurd h c2
    · exact absurd h c3
    · exact absurd h c4
    · exact h
  refine br_t (show decide ((d.length : Int) > IntKind.i64.wrap (f.size - (f.got.length : Int))) = true by rw [hwr]; simpa using h9) (fet_keep (fun _ => rfl) (fun _ => rfl) (fun _ h => h.2))
set_option maxRecDepth 100000 in
theorem part_good (H : FetAt w nb a cap f) (Hd : Cells w ad (bcells d)) (hd : ∀ k, (HX.cl ad (bcells d)).F k → k ≠ nb ∧ ¬ (cap ≠ 0 ∧ abk a = some k)) (hgl : f.got.length ≤ 1000000) (hsz : 0 ≤ f.size ∧ f.size ≤ 1000000) (c1 : f.slot ≠ 0) (c2 : slot = f.slot) (c3 : low = f.got.length) (c4 : d ≠ []) (c5 : (d.length : Int) ≤ f.size - f.got.length)
    (hsum : (f.got ++ d).length = f.size → strOfNums (eightB (sumB (f.got ++ d))) = f.sum) :
    Calls Try.prog 14 #[.pointer (some ⟨nb, 0, none⟩), .agg (msgV 12 slot low (.slice ad d.length cd))] w (fun e w' => if (f.got ++ d).length < f.size then FR w nb a cap ⟨f.src, f.slot, f.size, f.sum, f.got ++ d⟩ [] (fun v => .tuple #[v, .int .i64 0, .int .i64 0]) e w' else FR w nb a cap Ft.zero (f.got ++ d) (fun v => .tuple #[v, .int .i64 f.slot, .int .i64 0]) e w') := by
  have hdn : 0 < d.length := List.length_pos_iff.2 c4
  have hgd : (f.got ++ d).length = f.got.length + d.length := List.length_append
  refine calls_at (tab_ok _) Try.func14 rfl tPart (ρ := ⟨[12, slot, low, f.src, f.slot, f.size], [], [.string f.sum], [f.got.length, cap, d.length, cd], [a, ad]⟩) (ids := [nb]) (hx := (HX.cl ad (bcells d)).and (frow a cap f.got)) (M := fun x => x = nb ∨ (cap ≠ 0 ∧ abk a = some x)) rfl (Facts.initx rfl (fun v hv => by simp only [List.mem_singleton] at hv; subst hv; rfl) H.blk rfl (.inl rfl) ⟨Hd, H.mem⟩ (off_init H Hd (fun k hk => (hd k hk).1))) ?_
  have hwr : IntKind.i64.wrap (f.size - (f.got.length : Int)) = f.size - f.got.length := wrap_i64 (by omega)
  refine br_f rfl (br_f (show (f.slot == 0) = false by simpa using c1) (br_f (show (slot != f.slot) = false by simp; omega) (br_f (show (low != (f.got.length : Int)) = false by simp; omega) (br_f (show ((d.length : Int) == 0) = false by simpa using c4) (br_f (show decide ((d.length : Int) > IntKind.i64.wrap (f.size - (f.got.length : Int))) = false by rw [hwr]; simp; omega) ?_)))))
  refine node_appends rfl Try.underlying22 info_byte rfl (by decide) a f.got.length cap (bcells f.got) (fun _ => ad) d.length cd (bcells d) (by rw [bcells_len, Nat.mul_one]) (rest := HX.cl ad (bcells d)) (fun ids w2 _ hf => hf.x.2) (fun ids w2 hp hf => hf.x.1) (bcells_one _) (fun w h => ⟨h.1, fun _ q => .inl q⟩) (fun k h1 h2 => .inr ⟨h1, h2⟩) (fun k h1 h2 q => (hd k q).2 ⟨h1, h2⟩) (fun k h1 h2 => .inr (.inr ⟨h1, h2⟩)) (by unfold maxLen; omega) (by omega) (fun _ => rfl) (fun _ _ => rfl) (fun _ _ _ => rfl) rfl rfl (fun _ _ => rfl) ?_
  intro a1 c1' _ hd1 hw1
  have eb : bcells f.got ++ bcells d = bcells (f.got ++ d) := by unfold bcells; rw [List.map_append]
  have erow : HX.rw 1 5 a1 (f.got.length + d.length) c1' (bcells f.got ++ bcells d) = frow a1 c1' (f.got ++ d) := by unfold frow; rw [eb, hgd]
  rw [erow]
  have hw1' : ∀ k, c1' ≠ 0 → abk a1 = some k → (cap ≠ 0 ∧ abk a = some k) ∨ w.heap.size ≤ k := fun k h1 h2 => (hw1 k h1 h2).imp_right fun q => q.1
  have hdone : ∀ {ids : List Nat} {w2 : World} {m : Mem} {ρ' : Env} {hx : HX}, Facts ⟨Try.prog, w, fun x => x = nb ∨ (cap ≠ 0 ∧ abk a = some x), fun e w' => if (f.got ++ d).length < f.size then FR w nb a cap ⟨f.src, f.slot, f.size, f.sum, f.got ++ d⟩ [] (fun v => .tuple #[v, .int .i64 0, .int .i64 0]) e w' else FR w nb a cap Ft.zero (f.got ++ d) (fun v => .tuple #[v, .int .i64 f.slot, .int .i64 0]) e w'⟩ m ρ' ids hx w2 → Chg (fun x => x = nb ∨ (cap ≠ 0 ∧ abk a = some x)) w w2 := fun hf => hf.chg
  by_cases hlt : ((f.got ++ d).length : Int) < f.size
  · refine br_t (show decide (((f.got.length + d.length : Nat) : Int) < f.size) = true by rw [← hgd]; simpa using hlt) ?_
    intro ids w2 hp hf
    show ite _ _ _
    rw [if_pos hlt]
    have h0 := hf.blkAt 0 rfl
    rw [idAt0 hp] at h0
    refine ⟨a1, c1', none, 0, rfl, ?_, fun q => by simp [bcells] at q, hf.x.2, hdone hf, fun k h1 h2 => ⟨hw1' k h1 h2, cl_nil_no _ _⟩, fun k hk => absurd hk (cl_nil_no _ _)⟩
    show Blk w2 nb [.int .i64 f.src, .int .i64 f.slot, .int .i64 f.size, .string f.sum, .slice a1 (f.got ++ d).length c1'] 61
    rw [hgd]; exact h0
  · refine br_f (show decide (((f.got.length + d.length : Nat) : Int) < f.size) = false by rw [← hgd]; simpa using hlt) ?_
    have hle : ∀ {w : World}, (frow a1 c1' (f.got ++ d)).X w → Cells w a1 (bcells (f.got ++ d)) := fun h => rw_cells h
    refine node_newd (V := id) (bs := sealB (f.got ++ d)) (fun a' c' => ⟨[], [], [], [(sealB (f.got ++ d)).length, c'], [a']⟩) (fun ids w2 hp hf => by
      have := seal_any a1 c1' (f.got ++ d) w2 (hle hf.x.2) (by rw [hgd]; omega)
      rw [hgd] at this
      exact this) (fun _ _ _ => rfl) rfl rfl (fun _ _ => rfl) (fun _ _ => oneNil) ?_
    intro a2 c2' hc2 hn2
    have hsl := sealB_len (f.got ++ d)
    refine node_from (l := f.got.length + d.length) (n := (sealB (f.got ++ d)).length) (cap := c2') (sz := 1) a2 Try.underlying22 rfl info_byte (fun _ => rfl) (fun _ => rfl) (by rw [hsl, hgd]; omega) (fun _ => rfl) rfl rfl rfl ?_
    have e8 : (sealB (f.got ++ d)).length - (f.got.length + d.length) = (eightB (sumB (f.got ++ d))).length := by rw [hsl, hgd]; show _ = 8; omega
    rw [e8]
    refine node_text Try.underlying22 Try.underlying5 Try.underlying9 (sliA a2 (f.got.length + d.length) c2' 1) (c2' - (f.got.length + d.length)) (eightB (sumB (f.got ++ d))) (fun _ => rfl) (fun ids w2 hp hf => ?_) (fun _ => rfl) rfl rfl rfl ?_
    · have := sli_cells hf.x.2 (f.got.length + d.length) 8 c2' 1 (by rw [bcells_len, hsl, hgd]; omega) (by rw [bcells_len]; omega) (by decide)
      rw [Nat.mul_one, bcells_sub, ← hgd, sealB_drop] at this
      rw [← hgd]
      exact this
    refine node_texteq (strOfNums (eightB (sumB (f.got ++ d)))) f.sum (fun _ => rfl) (fun _ => rfl) (fun _ => rfl) rfl rfl rfl ?_
    refine br_f (show (!((strOfNums (eightB (sumB (f.got ++ d)))).toList == f.sum.toList)) = false by rw [hsum (by omega)]; simp) ?_
    intro ids w2 hp hf
    show ite _ _ _
    rw [if_neg hlt]
    have h0 := hf.blkAt 0 rfl
    rw [idAt0 hp] at h0
    have hrow := hf.x.1.2
    refine ⟨none, 0, a1, c1', ?_, h0, hle hrow, HX.rw_nil _ _ _ _, hdone hf, fun k h1 => absurd rfl h1, fun k hk => ?_⟩
    · rw [hgd]; rfl
    · obtain ⟨h1, h2⟩ := (rw_cl hrow).2 k hk
      exact hw1' k h1 h2
end
end Go.Proofs.Ytgphmdccmaibmaa
