/- TransferTells. -/
import Derived.Test.YtgphmdccmaibmaaTeD
import Derived.Test.YtgphmdccmaibmaaTeT3
namespace Go.Proofs.Ytgphmdccmaibmaa
open Go.ChangeShapes Go.WideShapes Go.ChangeAt Go.RowKit Go.Syn Go.Eng
set_option linter.unusedVariables false
set_option linter.unusedSimpArgs false
set_option maxRecDepth 100000
def XoI (B : HX) (n : Nat) (a : Option Addr) (c : Nat) (vs : Vals) (hx : HX) : Prop := ∃ (k : Nat) (d : List Int), k ≤ n ∧ d.length = n ∧ vs = ⟨[(k : Int)], [], [], [], []⟩ ∧ hx = B.and (frow a c d)
theorem frow_spl {a : Option Addr} {c k : Nat} {d : List Int} {z : Int} (h : k < d.length) : HX.rw 1 5 a d.length c (spl (bcells d) (k * 1 + 0) [.int .u8 z]) = frow a c (d.take k ++ z :: d.drop (k + 1)) := by
  have e1 : spl (bcells d) (k * 1 + 0) [.int .u8 z] = bcells (d.take k ++ z :: d.drop (k + 1)) := by
    unfold spl bcells
    rw [List.map_append, List.map_cons, List.map_drop, List.map_take]
    simp
  have e2 : (d.take k ++ z :: d.drop (k + 1)).length = d.length := by rw [List.length_append, List.length_cons, List.length_take, List.length_drop]; omega
  unfold frow
  rw [e1, e2]
set_option maxHeartbeats 4000000 in
theorem tells_walk (slot : Int) (a : Option Addr) (cap : Nat) (bs : List Int) (q : Mg) (w : World) (H : MgOk w q) (HB : Cells w a (bcells bs)) (hl : bs.length ≤ 140737488351232) (hcap : bs.length ≤ cap) :
    Calls Try.prog 6 #[.int .i64 slot, .slice a bs.length cap, .agg q.v] w (PureAt w (.bool true)) := by
  have keep : ∀ {m : Mem} {ρ : Env} {ids : List Nat} {hx : HX} {w2 : World} {R : Ending → World → Prop}, Facts ⟨Try.prog, w, fun _ => False, R⟩ m ρ ids hx w2 → MgOk w2 q := fun hf => H.keep (fun k hk => hf.chg.block k hk (fun q => q))
  have keb : ∀ {m : Mem} {ρ : Env} {ids : List Nat} {hx : HX} {w2 : World} {R : Ending → World → Prop}, Facts ⟨Try.prog, w, fun _ => False, R⟩ m ρ ids hx w2 → Cells w2 a (bcells bs) := fun hf => cl_stay HB (fun k hk => hf.chg.block k hk (fun q => q))
  refine calls_at (tab_ok _) Try.func6 rfl tTTells (ρ := ⟨q.i.is ++ [slot], [], [], [bs.length, cap, q.n0, q.c0, q.n1, q.c1, q.vs.length, q.cv, q.bs.length, q.cd], [a, q.a0, q.a1, q.av, q.ad]⟩) (ids := []) (hx := HX.nil) rfl (Facts.initP rfl oneNil) ?_
  refine node_P ⟨[], [true], [], [], []⟩ #[] (.bool true) (by intros; kernel_rfl) (by intros; kernel_rfl) (by intros; kernel_rfl) (by intros; kernel_rfl) (by intros; kernel_rfl) oneNil (fun ids w2 hp hf => thead_any w2) (br_f (by kernel_rfl) ?_)
  refine node_newd (V := id) (bs := bs) (fun a' c' => ⟨[], [], [], [bs.length, c'], [a']⟩) (fun ids w2 hp hf => (show Calls Try.prog 11 #[.slice a bs.length cap] w2 (NewD w2 id bs) from copyb_new a cap bs w2 (keb hf) (by omega))) (by intros; kernel_rfl) (by intros; kernel_rfl) (by intros; kernel_rfl) (by intros; kernel_rfl) (fun _ _ => oneNil) ?_
  intro ma mc hmc hm1
  refine node_newd (V := fun v => .agg (msgV 10 slot bs.length v)) (bs := eightB (sumB bs)) (fun a' c' => ⟨[10, 0, 0, 0, 0, 0, slot, (bs.length : Int), 0, 0, 0, 0, 0, 0, 0, 0, 0, 0, 0, 0, 0], [], [], [0, 0, 0, 0, 0, 0, 8, c'], [none, none, none, a']⟩) (fun ids w2 hp hf => (show Calls Try.prog 10 #[.int .i64 slot, .slice ma bs.length mc] w2 (NewD w2 (fun v => .agg (msgV 10 slot bs.length v)) (eightB (sumB bs))) from offer_any slot ma mc bs w2 hf.x.2 hl)) (by intros; kernel_rfl) (by intros; kernel_rfl) (by intros; kernel_rfl) (by intros; kernel_rfl) (fun _ _ => oneNil) ?_
  intro oa oc hoc ho1
  refine br_f (by kernel_rfl) (br_F (slot != slot) (by kernel_rfl) (by simp) (br_F ((bs.length : Int) != (bs.length : Int)) (by kernel_rfl) (by simp) ?_))
  refine node_newd (V := id) (bs := eightB (sumB bs)) (fun a' c' => ⟨[], [], [], [8, c'], [a']⟩) (fun ids w2 hp hf => (show Calls Try.prog 18 #[.slice a bs.length cap] w2 (NewD w2 id (eightB (sumB bs))) from qtsum a cap bs w2 (keb hf) hl)) (by intros; kernel_rfl) (by intros; kernel_rfl) (by intros; kernel_rfl) (by intros; kernel_rfl) (fun _ _ => oneNil) ?_
  intro sa sc hsc hs1
  refine node_P ⟨[], [true], [], [], []⟩ #[.slice oa 8 oc, .slice sa 8 sc] (.bool true) (by intros; kernel_rfl) (by intros; kernel_rfl) (by intros; kernel_rfl) (by intros; kernel_rfl) (by intros; kernel_rfl) oneNil (fun ids w2 hp hf => ?_) (br_f (by kernel_rfl) ?_)
  · have := sameb_any oa oc (eightB (sumB bs)) sa sc (eightB (sumB bs)) w2 hf.x.1.2 hf.x.2 (show (8 : Nat) ≤ 140737488355328 by decide)
    rw [decide_eq_true rfl] at this
    exact this
  refine node_cpm q rfl (fun ids w2 hp hf => keep hf) (by intros; kernel_rfl) (by intros; kernel_rfl) (by intros; kernel_rfl) (by intros; kernel_rfl) (by intros; kernel_rfl) ?_
  intro b0 d0 b1 d1 bv dv bd dd _
  by_cases hy : q.i.k = 11 ∧ q.i.slot = slot ∧ 0 ≤ q.i.low ∧ q.i.low < (bs.length : Int)
  · obtain ⟨hk, hs, hlo, hhi⟩ := hy
    obtain ⟨n, hn⟩ : ∃ n : Nat, q.i.low = (n : Int) := ⟨q.i.low.toNat, by omega⟩
    have hnb : n < bs.length := by omega
    obtain ⟨p, ep⟩ : ∃ p, p = (bs.drop n).take 1024 := ⟨_, rfl⟩
    have hpl : p.length = min 1024 (bs.length - n) := by rw [ep, List.length_take, List.length_drop]
    refine node_newo (V := fun v => .tuple #[.agg (msgV 12 slot n v), .bool true]) (bs := p) #[.int .i64 slot, .slice ma bs.length mc, .agg (mgV q.i (.slice b0 q.n0 d0) (.slice b1 q.n1 d1) (.slice bv q.vs.length dv) (.slice bd q.bs.length dd))] (fun a' c' => ⟨[12, 0, 0, 0, 0, 0, slot, (n : Int), 0, 0, 0, 0, 0, 0, 0, 0, 0, 0, 0, 0, 0], [true], [], [0, 0, 0, 0, 0, 0, p.length, c'], [none, none, none, a']⟩) (by intros; kernel_rfl) (fun ids w2 hp hf => by rw [ep]; exact ansg_yes slot ma mc bs q.i b0 q.n0 d0 b1 q.n1 d1 bv q.vs.length dv bd q.bs.length dd n w2 hf.x.1.1.1.2 hl hmc hk hs hn hnb) (by intros; kernel_rfl) (by intros; kernel_rfl) (by intros; kernel_rfl) (by intros; kernel_rfl) (fun _ _ => oneNil) ?_
    intro pa pc hps hpn
    refine ⟨fun vs hx => vs = ⟨[], [true, true], [], [], []⟩ ∧ hx = (HX.nil.and (HX.cl ma (bcells bs))).and (frow pa pc p), ?_, ?_⟩
    · refine br_T (q.i.k == 11) (by kernel_rfl) (by simp [hk]) (br_T (q.i.slot == slot) (by kernel_rfl) (by simp [hs]) (br_T (decide (q.i.low ≥ 0)) (by kernel_rfl) (decide_eq_true hlo) (br_F (!(true == decide (q.i.low < (bs.length : Int)))) (by kernel_rfl) (by rw [decide_eq_true hhi]; rfl) ?_)))
      exact again_V ⟨[], [true, true], [], [], []⟩ rfl (by intros; kernel_rfl) ((HX.nil.and (HX.cl ma (bcells bs))).and (frow pa pc p)) (fun w2 ids hf => ⟨⟨⟨trivial, hf.x.1.1.1.1.2⟩, hf.x.2⟩, fun j hj => hf.sep j (hj.elim (fun z => z.elim (fun z => z.elim) (fun z => .inl (.inl (.inl (.inl (.inr z)))))) (fun z => .inr z))⟩) ⟨rfl, rfl⟩
    rintro vs hx' hcnt ⟨rfl, rfl⟩
    have hdis : ∀ k, pc ≠ 0 → abk pa = some k → w.heap.size ≤ k ∧ ¬ (HX.nil.and (HX.cl ma (bcells bs))).F k := fun k h1 h2 => ⟨(hpn k h1 h2).1, fun z => (hpn k h1 h2).2 (z.elim (fun z => z.elim) (fun z => .inl (.inl (.inl (.inr z)))))⟩
    refine br_f (by kernel_rfl) (br_f (by kernel_rfl) (br_F (slot != slot) (by kernel_rfl) (by simp) (br_F ((n : Int) != q.i.low) (by kernel_rfl) (by simp [hn]) ?_)))
    have hw1 : IntKind.i64.wrap ((n : Int) + 1024) = (n : Int) + 1024 := wrap_i64 (by omega)
    obtain ⟨u, hu0⟩ : ∃ u, u = min bs.length (n + 1024) := ⟨_, rfl⟩
    have hu : min (bs.length : Int) (IntKind.i64.wrap (q.i.low + 1024)) = (u : Int) := by rw [hn, hw1]; omega
    have hun : u - n = p.length := by omega
    refine node_span (l := n) (u := u) (n := bs.length) (cap := cap) (sz := 1) a Try.underlying22 rfl info_byte (by intros; kernel_rfl) (fun _ => by rw [← hn]; kernel_rfl) (fun ids => Eq.trans (b := .int .i64 (min (bs.length : Int) (IntKind.i64.wrap (q.i.low + 1024)))) (by kernel_rfl) (by rw [hu])) (by omega) (by omega) (by intros; kernel_rfl) (by kernel_rfl) (by kernel_rfl) (by kernel_rfl) ?_
    rw [hun]
    refine node_P ⟨[], [true], [], [], []⟩ #[.slice pa p.length pc, .slice (sliA a n cap 1) p.length (cap - n)] (.bool true) (by intros; kernel_rfl) (by intros; kernel_rfl) (by intros; kernel_rfl) (by intros; kernel_rfl) (by intros; kernel_rfl) oneNil (fun ids w2 hp hf => ?_) (br_f (by kernel_rfl) ?_)
    · have h2 := sli_cells (keb hf) n 1024 cap 1 (by rw [bcells_len]; omega) (by rw [bcells_len]; omega) (by decide)
      rw [Nat.mul_one, bcells_sub, ← ep] at h2
      have := sameb_any pa pc p (sliA a n cap 1) (cap - n) p w2 (rw_cells hf.x.2) h2 (by omega)
      rw [decide_eq_true rfl] at this
      exact this
    refine ⟨fun vs hx => vs = ⟨[], [], [], [], []⟩ ∧ hx = (HX.nil.and (HX.cl ma (bcells bs))).and (frow pa pc p), ?_, ?_⟩
    · have leave : ∀ {m : Mem} {ρ : Env} {es : Vec} {L : Stack}, lkup 17 L = some (fun vs hx => vs = ⟨[], [], [], [], []⟩ ∧ hx = (HX.nil.and (HX.cl ma (bcells bs))).and (frow pa pc p)) → (∀ ids, es.den ρ ids = ⟨[], [], [], [], []⟩) → (Tree.again 17 es m).holds ⟨Try.prog, w, fun _ => False, PureAt w (.bool true)⟩ ρ [] ((HX.nil.and (HX.cl ma (bcells bs))).and (frow pa pc p)) L := fun hL hv => again_V ⟨[], [], [], [], []⟩ hL hv _ (fun w2 ids hf => ⟨hf.x, hf.sep⟩) ⟨rfl, rfl⟩
      by_cases h1 : slot ≥ 0
      case neg => exact br_F (decide (slot ≥ 0)) (by kernel_rfl) (decide_eq_false h1) (leave rfl (by intros; kernel_rfl))
      refine br_T (decide (slot ≥ 0)) (by kernel_rfl) (decide_eq_true h1) ?_
      by_cases h2 : slot ≤ 1099511627776
      case neg => exact br_F (decide (slot ≤ 1099511627776)) (by kernel_rfl) (decide_eq_false h2) (leave rfl (by intros; kernel_rfl))
      refine br_T (decide (slot ≤ 1099511627776)) (by kernel_rfl) (decide_eq_true h2) ?_
      by_cases h3 : (bs.length : Int) ≤ 16384
      case neg => exact br_F (decide ((bs.length : Int) ≤ 16384)) (by kernel_rfl) (decide_eq_false h3) (leave rfl (by intros; kernel_rfl))
      refine br_T (decide ((bs.length : Int) ≤ 16384)) (by kernel_rfl) (decide_eq_true h3) ?_
      refine node_P ⟨[0], [], [], [], []⟩ #[.agg (msgV 12 slot n (.slice pa p.length pc))] (.int .i64 0) (by intros; kernel_rfl) (by intros; kernel_rfl) (by intros; kernel_rfl) (by intros; kernel_rfl) (by intros; kernel_rfl) oneNil (fun ids w2 hp hf => mchk12 slot n pa p.length pc ⟨h1, h2⟩ ⟨by omega, by omega⟩ (by omega) w2) (br_f (by kernel_rfl) ?_)
      refine node_P ⟨[0], [], [], [], []⟩ #[.agg (msgV 10 slot bs.length (.slice oa 8 oc))] (.int .i64 0) (by intros; kernel_rfl) (by intros; kernel_rfl) (by intros; kernel_rfl) (by intros; kernel_rfl) (by intros; kernel_rfl) oneNil (fun ids w2 hp hf => mchk10 slot bs.length oa 8 oc ⟨h1, h2⟩ ⟨by omega, by omega⟩ (by omega) w2) (br_f (by kernel_rfl) ?_)
      exact leave rfl (by intros; kernel_rfl)
    rintro vs hx' hcnt2 ⟨rfl, rfl⟩
    refine loop_i (XoI (HX.nil.and (HX.cl ma (bcells bs))) p.length pa pc) (fun vs => p.length - (vs.i.headD 0).toNat) (fun ids w2 hp hf => ⟨_, ⟨hf.x, hf.sep⟩, 0, p, Nat.zero_le _, rfl, rfl, rfl⟩) ?_
    rintro vs hx' hcnt3 ⟨k, d, hk, hd, rfl, rfl⟩
    by_cases hlt : k < p.length
    · refine br_T (decide ((k : Int) < (p.length : Int))) (by kernel_rfl) (decide_eq_true (by omega)) ?_
      have hwk : IntKind.i64.wrap ((k : Int) + 1) = ((k + 1 : Nat) : Int) := by rw [wrap_i64 (by omega)]; omega
      obtain ⟨y, hy⟩ : ∃ y, d[k]? = some y := ⟨_, List.getElem?_eq_getElem (by omega)⟩
      have hsm := hps (fun q => by rw [q] at hlt; exact absurd hlt (Nat.not_lt_zero _))
      refine need_k (pa.isSome = true ∧ (0 : Int) ≤ k ∧ (k : Int) < p.length) (by kernel_rfl) ⟨hsm, by omega, by omega⟩ ?_
      refine node_ldk ⟨[y], [], [], [], []⟩ (fun _ => .pointer (some (((pa.getD ⟨0, 0, none⟩).add (k * 1)).add 0))) [.int .u8 y] (by intros; kernel_rfl) (by intros; kernel_rfl) (fun ids w2 hp hf => (b_elt (rw_cells hf.x.2) (i := k) hy).2 _ (fun e => e)) (by kernel_rfl) oneNil ?_
      refine need_k (pa.isSome = true ∧ (0 : Int) ≤ k ∧ (k : Int) < p.length) (by kernel_rfl) ⟨hsm, by omega, by omega⟩ ?_
      refine node_stores (sz := 1) pa d.length pc (bcells d) [.int .u8 (ifn .xor .u8 y 255)] k 0 (.int .u8 (ifn .xor .u8 y 255)) (by kernel_rfl) (by intros; kernel_rfl) (by intros; kernel_rfl) rfl (by simp [Value.oneCell']) (by simp; omega) (by simp) (fun q h1 h2 hF => (hdis q h1 h2).2 hF) (fun q h1 h2 => .inl (hdis q h1 h2).1) (by kernel_rfl) (by kernel_rfl) (by kernel_rfl) ?_
      rw [frow_spl (by omega)]
      refine again_V ⟨[((k + 1 : Nat) : Int)], [], [], [], []⟩ rfl (fun ids => Eq.trans (b := ⟨[IntKind.i64.wrap ((k : Int) + 1)], [], [], [], []⟩) (by kernel_rfl) (by rw [hwk])) _ (fun w2 ids hf => ⟨hf.x, hf.sep⟩) ⟨⟨k + 1, _, by omega, ?_, rfl, rfl⟩, ?_⟩
      · rw [List.length_append, List.length_cons, List.length_take, List.length_drop]; omega
      · show p.length - (((k + 1 : Nat) : Int)).toNat < p.length - ((k : Int)).toNat
        omega
    refine br_F (decide ((k : Int) < (p.length : Int))) (by kernel_rfl) (decide_eq_false (by omega)) ?_
    refine node_P ⟨[], [true], [], [], []⟩ #[.slice ma bs.length mc, .slice a bs.length cap] (.bool true) (by intros; kernel_rfl) (by intros; kernel_rfl) (by intros; kernel_rfl) (by intros; kernel_rfl) (by intros; kernel_rfl) oneNil (fun ids w2 hp hf => ?_) (pure_done (by intros; kernel_rfl))
    have := sameb_any ma mc bs a cap bs w2 hf.x.1.2 (keb hf) (by omega)
    rw [decide_eq_true rfl] at this
    exact this
  · refine node_P ⟨[0, 0, 0, 0, 0, 0, 0, 0, 0, 0, 0, 0, 0, 0, 0, 0, 0, 0, 0, 0, 0], [false], [], [0, 0, 0, 0, 0, 0, 0, 0], [none, none, none, none]⟩ #[.int .i64 slot, .slice ma bs.length mc, .agg (mgV q.i (.slice b0 q.n0 d0) (.slice b1 q.n1 d1) (.slice bv q.vs.length dv) (.slice bd q.bs.length dd))] (.tuple #[mg00, .bool false]) (by intros; kernel_rfl) (by intros; kernel_rfl) (by intros; kernel_rfl) (by intros; kernel_rfl) (by intros; kernel_rfl) oneNil (fun ids w2 hp hf => ansg_no slot ma mc bs q.i b0 q.n0 d0 b1 q.n1 d1 bv q.vs.length dv bd q.bs.length dd w2 hf.x.1.1.1.2 hl hmc hy) ?_
    refine ⟨fun vs hx => vs = ⟨[], [false, false], [], [], []⟩ ∧ hx = HX.nil, ?_, ?_⟩
    · have leave : ∀ {m : Mem} {ρ : Env} {es : Vec} {L : Stack} {hx : HX}, lkup 10 L = some (fun vs hx => vs = ⟨[], [false, false], [], [], []⟩ ∧ hx = HX.nil) → (∀ ids, es.den ρ ids = ⟨[], [false, false], [], [], []⟩) → (Tree.again 10 es m).holds ⟨Try.prog, w, fun _ => False, PureAt w (.bool true)⟩ ρ [] hx L := fun hL hv => again_V ⟨[], [false, false], [], [], []⟩ hL hv HX.nil (fun w2 ids hf => HXok.none _ _) ⟨rfl, rfl⟩
      by_cases h1 : q.i.k = 11
      case neg => exact br_F (q.i.k == 11) (by kernel_rfl) (by simpa using h1) (br_f (by kernel_rfl) (leave rfl (by intros; kernel_rfl)))
      refine br_T (q.i.k == 11) (by kernel_rfl) (by simp [h1]) ?_
      by_cases h2 : q.i.slot = slot
      case neg => exact br_F (q.i.slot == slot) (by kernel_rfl) (by simpa using h2) (br_f (by kernel_rfl) (leave rfl (by intros; kernel_rfl)))
      refine br_T (q.i.slot == slot) (by kernel_rfl) (by simp [h2]) ?_
      by_cases h3 : q.i.low ≥ 0
      case neg => exact br_F (decide (q.i.low ≥ 0)) (by kernel_rfl) (decide_eq_false h3) (br_f (by kernel_rfl) (leave rfl (by intros; kernel_rfl)))
      refine br_T (decide (q.i.low ≥ 0)) (by kernel_rfl) (decide_eq_true h3) ?_
      exact br_F (!(false == decide (q.i.low < (bs.length : Int)))) (by kernel_rfl) (by rw [decide_eq_false (by omega)]; rfl) (leave rfl (by intros; kernel_rfl))
    rintro vs hx' hcnt ⟨rfl, rfl⟩
    refine br_t (by kernel_rfl) ?_
    exact node_P ⟨[], [true], [], [], []⟩ #[mg00, mg00] (.bool true) (by intros; kernel_rfl) (by intros; kernel_rfl) (by intros; kernel_rfl) (by intros; kernel_rfl) (by intros; kernel_rfl) oneNil (fun ids w2 hp hf => sameMZ w2) (pure_done (by intros; kernel_rfl))
theorem tells_args (slot : Int) (a : Option Addr) (cap : Nat) (ds : List Dat) (d : Dat) (w : World) (_ : I64 slot) (hC : Cells w a (Dat.cellsAll ds)) (hds : ∀ d ∈ ds, d.In Try.prog w 5) (hl : ds.length ≤ 9223372036854775807) (hb : ds.length * Try.prog.bytesOf 5 ≤ reachBytes) (hcp : ds.length ≤ cap) (hd : d.In Try.prog w 41) :
    Calls Try.prog 6 #[.int .i64 slot, .slice a ds.length cap, .agg d.cells.toArray] w (PureAt w (.bool true)) := by
  obtain ⟨xs, e1, H1⟩ := bytes_of hC hds
  obtain ⟨m, e, H⟩ := opn_msg hd
  have hbs : Try.prog.bytesOf 5 = 1 := by kernel_rfl
  have hr : reachBytes = 140737488351232 := by kernel_rfl
  rw [e, ← e1]
  exact tells_walk slot a cap xs m w H H1 (by rw [hbs, hr] at hb; omega) (by omega)
end Go.Proofs.Ytgphmdccmaibmaa
