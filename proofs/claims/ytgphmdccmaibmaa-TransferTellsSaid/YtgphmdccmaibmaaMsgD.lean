/- Any message, as an argument, opened. -/
import Derived.Test.YtgphmdccmaibmaaMsg
import Derived.Test.YtgphmdccmaibmaaDat
namespace Go.Proofs.Ytgphmdccmaibmaa
open Go.ChangeShapes Go.WideShapes Go.ChangeAt Go.RowKit Go.Syn Go.Eng
set_option linter.unusedVariables false
set_option linter.unusedSimpArgs false
mutual
theorem dat_one : ∀ (d : Dat) (u : Value), u ∈ d.cells → u.oneCell' = true
  | .int k n, u, h => by simp only [Dat.cells, List.mem_singleton] at h; subst h; rfl
  | .bool b, u, h => by simp only [Dat.cells, List.mem_singleton] at h; subst h; rfl
  | .str s, u, h => by simp only [Dat.cells, List.mem_singleton] at h; subst h; rfl
  | .parts ds, u, h => dats_one ds u (by simpa only [Dat.cells] using h)
  | .sl a n c ds, u, h => by simp only [Dat.cells, List.mem_singleton] at h; subst h; rfl
theorem dats_one : ∀ (ds : List Dat) (u : Value), u ∈ Dat.cellsAll ds → u.oneCell' = true
  | [], u, h => by simp [Dat.cellsAll] at h
  | d :: r, u, h => by
    simp only [Dat.cellsAll, List.mem_append] at h
    exact h.elim (dat_one d u) (dats_one r u)
end
theorem opn_int {w : World} {d : Dat} (h : d.In Try.prog w 3) : ∃ n, d = .int .i64 n := (in_int Try.underlying3 h).imp fun n q => q.1
theorem opn_op {w : World} {d : Dat} (h : d.In Try.prog w 35) : ∃ a b c e f : Int, d = .parts [.int .i64 a, .int .i64 b, .int .i64 c, .int .i64 e, .int .i64 f] := by
  obtain ⟨ds, rfl, g⟩ := in_struct Try.underlying35 h
  obtain ⟨d0, r0, rfl, h0, g0⟩ := inEach_cons g
  obtain ⟨d1, r1, rfl, h1, g1⟩ := inEach_cons g0
  obtain ⟨d2, r2, rfl, h2, g2⟩ := inEach_cons g1
  obtain ⟨d3, r3, rfl, h3, g3⟩ := inEach_cons g2
  obtain ⟨d4, r4, rfl, h4, g4⟩ := inEach_cons g3
  obtain rfl := inEach_nil g4
  obtain ⟨a, rfl⟩ := opn_int h0
  obtain ⟨b, rfl⟩ := opn_int h1
  obtain ⟨c, rfl⟩ := opn_int h2
  obtain ⟨e, rfl⟩ := opn_int h3
  obtain ⟨f, rfl⟩ := opn_int h4
  exact ⟨a, b, c, e, f, rfl⟩
theorem opn_cmd {w : World} {d : Dat} (h : d.In Try.prog w 37) : ∃ x y z a b c e f : Int, d = .parts [.int .i64 x, .int .i64 y, .int .i64 z, .parts [.int .i64 a, .int .i64 b, .int .i64 c, .int .i64 e, .int .i64 f]] := by
  obtain ⟨ds, rfl, g⟩ := in_struct Try.underlying37 h
  obtain ⟨d0, r0, rfl, h0, g0⟩ := inEach_cons g
  obtain ⟨d1, r1, rfl, h1, g1⟩ := inEach_cons g0
  obtain ⟨d2, r2, rfl, h2, g2⟩ := inEach_cons g1
  obtain ⟨d3, r3, rfl, h3, g3⟩ := inEach_cons g2
  obtain rfl := inEach_nil g3
  obtain ⟨x, rfl⟩ := opn_int h0
  obtain ⟨y, rfl⟩ := opn_int h1
  obtain ⟨z, rfl⟩ := opn_int h2
  obtain ⟨a, b, c, e, f, rfl⟩ := opn_op h3
  exact ⟨x, y, z, a, b, c, e, f, rfl⟩
theorem opn_res {w : World} {d : Dat} (h : d.In Try.prog w 39) : ∃ x y z : Int, d = .parts [.int .i64 x, .int .i64 y, .int .i64 z] := by
  obtain ⟨ds, rfl, g⟩ := in_struct Try.underlying39 h
  obtain ⟨d0, r0, rfl, h0, g0⟩ := inEach_cons g
  obtain ⟨d1, r1, rfl, h1, g1⟩ := inEach_cons g0
  obtain ⟨d2, r2, rfl, h2, g2⟩ := inEach_cons g1
  obtain rfl := inEach_nil g2
  obtain ⟨x, rfl⟩ := opn_int h0
  obtain ⟨y, rfl⟩ := opn_int h1
  obtain ⟨z, rfl⟩ := opn_int h2
  exact ⟨x, y, z, rfl⟩
theorem opn_bal {w : World} {d : Dat} (h : d.In Try.prog w 29) : ∃ x y : Int, d = .parts [.int .i64 x, .int .i64 y] := by
  obtain ⟨ds, rfl, g⟩ := in_struct Try.underlying29 h
  obtain ⟨d0, r0, rfl, h0, g0⟩ := inEach_cons g
  obtain ⟨d1, r1, rfl, h1, g1⟩ := inEach_cons g0
  obtain rfl := inEach_nil g1
  obtain ⟨x, rfl⟩ := opn_int h0
  obtain ⟨y, rfl⟩ := opn_int h1
  exact ⟨x, y, rfl⟩
theorem bytes_cmd : Try.prog.bytesOf 37 = 64 := by kernel_rfl
theorem bytes_int : Try.prog.bytesOf 3 = 8 := by kernel_rfl
theorem bytes_vot : Try.prog.bytesOf 80 = 80 := by kernel_rfl
theorem bytes_u8 : Try.prog.bytesOf 5 = 1 := by kernel_rfl
theorem reach_is : reachBytes ≤ 140737488355328 := by unfold reachBytes; decide
theorem slOk_of {w : World} {a : Option Addr} {ds : List Dat} {sz bytes : Nat} {e : TypeId} (hC : Cells w a (Dat.cellsAll ds)) (hlen : ∀ d ∈ ds, d.cells.length = sz) (h1 : ds.length ≤ maxLen) (hb : ds.length * Try.prog.bytesOf e ≤ reachBytes) (he : Try.prog.bytesOf e = bytes) : SlOk w a ds.length sz bytes (Dat.cellsAll ds) :=
  ⟨hC, dats_one ds, cellsAll_length sz ds hlen, h1, by have := reach_is; rw [he] at hb; omega⟩
/-- A value, opened. -/
theorem opn_val {w : World} {d : Dat} (h : d.In Try.prog w 32) : ∃ (k : Int) (a1 : Option Addr) (n1 c1 : Nat) (cs1 : List Value) (a2 : Option Addr) (n2 c2 : Nat) (cs2 : List Value), d.cells = [.int .i64 k, .slice a1 n1 c1, .slice a2 n2 c2] ∧ SlOk w a1 n1 8 64 cs1 ∧ SlOk w a2 n2 1 8 cs2 := by
  obtain ⟨ds, rfl, g⟩ := in_struct Try.underlying32 h
  obtain ⟨d0, r0, rfl, h0, g0⟩ := inEach_cons g
  obtain ⟨d1, r1, rfl, h1, g1⟩ := inEach_cons g0
  obtain ⟨d2, r2, rfl, h2, g2⟩ := inEach_cons g1
  obtain rfl := inEach_nil g2
  obtain ⟨k, rfl⟩ := opn_int h0
  obtain ⟨a1, c1, ds1, rfl, l1, m1, b1, C1, I1⟩ := in_slice Try.underlying30 h1
  obtain ⟨a2, c2, ds2, rfl, l2, m2, b2, C2, I2⟩ := in_slice Try.underlying23 h2
  refine ⟨k, a1, ds1.length, c1, Dat.cellsAll ds1, a2, ds2.length, c2, Dat.cellsAll ds2, rfl, slOk_of C1 (fun d hd => ?_) (Nat.le_trans l1 m1) b1 bytes_cmd, slOk_of C2 (fun d hd => ?_) (Nat.le_trans l2 m2) b2 bytes_int⟩
  · obtain ⟨x, y, z, a, b, c, e, f, rfl⟩ := opn_cmd (I1 d hd); rfl
  · obtain ⟨x, rfl⟩ := opn_int (I2 d hd); rfl
theorem opn_vote {w : World} {d : Dat} (h : d.In Try.prog w 80) : ∃ v : Vt, d.cells = v.cells ∧ VtOk w v := by
  obtain ⟨ds, rfl, g⟩ := in_struct Try.underlying80 h
  obtain ⟨d0, r0, rfl, h0, g0⟩ := inEach_cons g
  obtain ⟨d1, r1, rfl, h1, g1⟩ := inEach_cons g0
  obtain ⟨d2, r2, rfl, h2, g2⟩ := inEach_cons g1
  obtain rfl := inEach_nil g2
  obtain ⟨s, rfl⟩ := opn_int h0
  obtain ⟨x, y, rfl⟩ := opn_bal h1
  obtain ⟨k, a1, n1, c1, cs1, a2, n2, c2, cs2, e, o1, o2⟩ := opn_val h2
  refine ⟨⟨s, x, y, k, a1, n1, c1, cs1, a2, n2, c2, cs2⟩, ?_, o1, o2⟩
  show [Value.int .i64 s] ++ (Dat.cellsAll [.int .i64 x, .int .i64 y] ++ (d2.cells ++ [])) = _
  rw [e]; rfl
theorem opn_votes {w : World} : ∀ (ds : List Dat), (∀ d ∈ ds, d.In Try.prog w 80) → ∃ vs : List Vt, vs.length = ds.length ∧ Dat.cellsAll ds = vcells vs ∧ ∀ v ∈ vs, VtOk w v
  | [], _ => ⟨[], rfl, rfl, by simp⟩
  | d :: r, h => by
    obtain ⟨v, e, o⟩ := opn_vote (h d (by simp))
    obtain ⟨vs, l, e2, o2⟩ := opn_votes r (fun d hd => h d (by simp [hd]))
    exact ⟨v :: vs, by simp [l], by rw [Dat.cellsAll, e, e2]; rfl, by simpa using ⟨o, o2⟩⟩
theorem opn_bytes {w : World} (ds : List Dat) (hds : ∀ d ∈ ds, d.In Try.prog w 5) : ∃ bs : List Int, bs.length = ds.length ∧ Dat.cellsAll ds = bcells bs := by
  obtain ⟨bs, rfl, ho⟩ := list_map_of (Dat.int .u8) (fun _ => True) ds (fun d hd => by
    obtain ⟨k0, rfl, _⟩ := in_int Try.underlying5 (hds d hd)
    exact ⟨k0, rfl, trivial⟩)
  refine ⟨bs, by rw [List.length_map], ?_⟩
  clear hds ho
  induction bs with
  | nil => rfl
  | cons x r ih => rw [List.map_cons, bcells, List.map_cons, ← bcells, ← ih]; rfl
/-- Any message, opened. -/
theorem opn_msg {w : World} {d : Dat} (h : d.In Try.prog w 41) : ∃ m : Mg, d.cells = m.v.toList ∧ MgOk w m := by
  obtain ⟨ds, rfl, g⟩ := in_struct Try.underlying41 h
  obtain ⟨d0, r0, rfl, h0, g0⟩ := inEach_cons g
  obtain ⟨d1, r1, rfl, h1, g1⟩ := inEach_cons g0
  obtain ⟨d2, r2, rfl, h2, g2⟩ := inEach_cons g1
  obtain ⟨d3, r3, rfl, h3, g3⟩ := inEach_cons g2
  obtain ⟨d4, r4, rfl, h4, g4⟩ := inEach_cons g3
  obtain ⟨d5, r5, rfl, h5, g5⟩ := inEach_cons g4
  obtain ⟨d6, r6, rfl, h6, g6⟩ := inEach_cons g5
  obtain ⟨d7, r7, rfl, h7, g7⟩ := inEach_cons g6
  obtain ⟨d8, r8, rfl, h8, g8⟩ := inEach_cons g7
  obtain ⟨d9, r9, rfl, h9, g9⟩ := inEach_cons g8
  obtain ⟨d10, r10, rfl, h10, g10⟩ := inEach_cons g9
  obtain ⟨d11, r11, rfl, h11, g11⟩ := inEach_cons g10
  obtain ⟨d12, r12, rfl, h12, g12⟩ := inEach_cons g11
  obtain rfl := inEach_nil g12
  obtain ⟨i0, rfl⟩ := opn_int h0
  obtain ⟨i1, rfl⟩ := opn_int h1
  obtain ⟨i2, rfl⟩ := opn_int h2
  obtain ⟨i3, rfl⟩ := opn_int h3
  obtain ⟨b0, b1, rfl⟩ := opn_bal h4
  obtain ⟨i5, rfl⟩ := opn_int h5
  obtain ⟨i6, rfl⟩ := opn_int h6
  obtain ⟨i7, rfl⟩ := opn_int h7
  obtain ⟨k, a1, n1, c1, cs1, a2, n2, c2, cs2, e8, o1, o2⟩ := opn_val h8
  obtain ⟨av, cv, dv, rfl, lv, mv, bv, Cv, Iv⟩ := in_slice Try.underlying33 h9
  obtain ⟨x, y, z, p0, p1, p2, p3, p4, rfl⟩ := opn_cmd h10
  obtain ⟨q0, q1, q2, rfl⟩ := opn_res h11
  obtain ⟨ad, cd, dd, rfl, ld, md, bd, Cd, Id⟩ := in_slice Try.underlying22 h12
  obtain ⟨vs, lvs, evs, ovs⟩ := opn_votes dv Iv
  obtain ⟨bs, lbs, ebs⟩ := opn_bytes dd Id
  have hr := reach_is
  rw [bytes_vot] at bv
  rw [bytes_u8] at bd
  refine ⟨⟨⟨i0, i1, i2, i3, b0, b1, i5, i6, i7, k, x, y, z, p0, p1, p2, p3, p4, q0, q1, q2⟩, a1, n1, c1, cs1, a2, n2, c2, cs2, av, cv, vs, ad, cd, bs⟩, ?_, o1, o2, ⟨by rw [← evs]; exact Cv, ovs, by show vs.length * 80 ≤ _; omega⟩, by show Cells w ad (bcells bs); rw [← ebs]; exact Cd, by show bs.length ≤ _; omega⟩
  show [Value.int .i64 i0] ++ ([Value.int .i64 i1] ++ ([Value.int .i64 i2] ++ ([Value.int .i64 i3] ++ (Dat.cellsAll [.int .i64 b0, .int .i64 b1] ++ ([Value.int .i64 i5] ++ ([Value.int .i64 i6] ++ ([Value.int .i64 i7] ++ (d8.cells ++ ([Value.slice av dv.length cv] ++ (Dat.cellsAll [.int .i64 x, .int .i64 y, .int .i64 z, .parts [.int .i64 p0, .int .i64 p1, .int .i64 p2, .int .i64 p3, .int .i64 p4]] ++ (Dat.cellsAll [.int .i64 q0, .int .i64 q1, .int .i64 q2] ++ ([Value.slice ad dd.length cd] ++ [])))))))))))) = _
  rw [e8, ← lvs, ← lbs]; rfl
end Go.Proofs.Ytgphmdccmaibmaa
