/- Lists of pairs as maps from ints. No program in sight. -/
import Derived.Test.YtadgaefmoobcoaaEng34
namespace Go.Eng
open Go.RowKit Go.Syn Go.MapKept
set_option linter.unusedVariables false
set_option linter.unusedSimpArgs false
section
variable {α β : Type}
def mlk (m : List (Int × α)) (k : Int) : Option α := (m.find? (fun p => p.1 == k)).map (·.2)
def mput (m : List (Int × α)) (k : Int) (v : α) : List (Int × α) := if (mlk m k).isSome then m.map (fun p => if p.1 = k then (k, v) else p) else m ++ [(k, v)]
def mdel (m : List (Int × α)) (k : Int) : List (Int × α) := m.filter fun p => decide (p.1 ≠ k)
def mmap (f : α → β) (m : List (Int × α)) : List (Int × β) := m.map fun p => (p.1, f p.2)
def NdK (m : List (Int × α)) : Prop := (m.map (·.1)).Nodup
theorem mlk_nil (k : Int) : mlk ([] : List (Int × α)) k = none := rfl
theorem mlk_cons (p : Int × α) (m : List (Int × α)) (k : Int) : mlk (p :: m) k = if p.1 = k then some p.2 else mlk m k := by
  unfold mlk
  rw [List.find?_cons]
  by_cases h : p.1 = k
  · simp [h]
  · rw [if_neg h, show (p.1 == k) = false by simpa using h]
theorem mlk_map (f : α → β) (m : List (Int × α)) (k : Int) : mlk (mmap f m) k = (mlk m k).map f := by
  induction m with
  | nil => rfl
  | cons p m ih =>
    show mlk ((p.1, f p.2) :: mmap f m) k = _
    rw [mlk_cons, mlk_cons]
    by_cases h : p.1 = k
    · simp [h]
    · simp [h, ih]
theorem mput_map (f : α → β) (m : List (Int × α)) (k : Int) (v : α) : mput (mmap f m) k (f v) = mmap f (mput m k v) := by
  unfold mput
  rw [mlk_map]
  cases h : mlk m k with
  | none => simp [mmap]
  | some x =>
    simp only [Option.map_some, Option.isSome_some, if_true]
    unfold mmap
    rw [List.map_map, List.map_map]
    refine List.map_congr_left fun p _ => ?_
    simp only [Function.comp]
    by_cases e : p.1 = k
    · simp [e]
    · simp [e]
theorem mdel_map (f : α → β) (m : List (Int × α)) (k : Int) : mdel (mmap f m) k = mmap f (mdel m k) := by
  unfold mdel mmap
  rw [List.filter_map]; rfl
theorem keys_map (f : α → β) (m : List (Int × α)) : (mmap f m).map (·.1) = m.map (·.1) := by unfold mmap; rw [List.map_map]; rfl
theorem mlk_none_iff {m : List (Int × α)} {k : Int} : mlk m k = none ↔ ∀ p ∈ m, p.1 ≠ k := by
  induction m with
  | nil => simp [mlk_nil]
  | cons p m ih =>
    rw [mlk_cons]
    by_cases h : p.1 = k
    · simp [h]
    · simp [h, ih]
theorem mlk_mem {m : List (Int × α)} {k : Int} {v : α} (h : mlk m k = some v) : (k, v) ∈ m := by
  induction m with
  | nil => cases h
  | cons p m ih =>
    rw [mlk_cons] at h
    split at h
    · rename_i e; cases h; rw [← e]; exact List.mem_cons_self
    · exact List.mem_cons_of_mem _ (ih h)
theorem mem_mlk {m : List (Int × α)} {k : Int} {v : α} (hn : NdK m) (h : (k, v) ∈ m) : mlk m k = some v := by
  induction m with
  | nil => cases h
  | cons p m ih =>
    simp only [NdK, List.map_cons, List.nodup_cons] at hn
    rw [mlk_cons]
    rcases List.mem_cons.1 h with rfl | h
    · simp
    · rw [if_neg fun e => hn.1 (List.mem_map.2 ⟨(k, v), h, e.symm⟩)]
      exact ih hn.2 h
theorem mlk_put (m : List (Int × α)) (k : Int) (v : α) (j : Int) : mlk (mput m k v) j = if j = k then some v else mlk m j := by
  unfold mput
  cases h : mlk m k with
  | none =>
    simp only [Option.isSome_none, Bool.false_eq_true, if_false]
    induction m with
    | nil => rw [List.nil_append, mlk_cons, mlk_nil]; by_cases e : j = k <;> simp [e, Ne.symm] <;> omega
    | cons p m ih =>
      rw [mlk_cons] at h
      split at h
      · cases h
      rename_i hpk
      rw [List.cons_append, mlk_cons, mlk_cons, ih h]
      by_cases e : p.1 = j
      · rw [if_pos e, if_pos e, if_neg (by rintro rfl; exact hpk e)]
      · rw [if_neg e, if_neg e]
  | some x =>
    simp only [Option.isSome_some, if_true]
    by_cases e : j = k
    · subst e
      rw [if_pos rfl]
      induction m with
      | nil => cases h
      | cons p m ih =>
        rw [mlk_cons] at h
        rw [List.map_cons, mlk_cons]
        split at h
        · rename_i e; rw [if_pos e]; simp
        · rename_i e; rw [if_neg e, if_neg e]; exact ih h
    · rw [if_neg e]
      clear h
      induction m with
      | nil => rfl
      | cons p m ih =>
        rw [List.map_cons, mlk_cons, mlk_cons, ih]
        by_cases q : p.1 = k
        · rw [if_pos q, if_neg (show ¬ k = j from fun r => e r.symm), if_neg (by rw [q]; exact fun r => e r.symm)]
        · rw [if_neg q]
theorem mlk_del (m : List (Int × α)) (k j : Int) : mlk (mdel m k) j = if j = k then none else mlk m j := by
  unfold mdel
  induction m with
  | nil => rw [List.filter_nil, mlk_nil]; split <;> rfl
  | cons p m ih =>
    rw [List.filter_cons]
    by_cases q : p.1 = k
    · rw [if_neg (by simp [q]), ih, mlk_cons]
      by_cases e : j = k
      · rw [if_pos e, if_pos e]
      · rw [if_neg e, if_neg e, if_neg (by rw [q]; exact fun r => e r.symm)]
    · rw [if_pos (by simp [q]), mlk_cons, mlk_cons, ih]
      by_cases e : j = k
      · rw [if_pos e, if_pos e, if_neg (by rw [e]; exact q)]
      · rw [if_neg e, if_neg e]
theorem mput_mem {m : List (Int × α)} {k : Int} {v : α} {p : Int × α} (h : p ∈ mput m k v) : p = (k, v) ∨ (p ∈ m ∧ p.1 ≠ k) := by
  unfold mput at h
  split at h
  · obtain ⟨q, hq, rfl⟩ := List.mem_map.1 h
    by_cases e : q.1 = k
    · rw [if_pos e]; exact .inl rfl
    · rw [if_neg e]; exact .inr ⟨hq, e⟩
  · rename_i hn
    have hn : mlk m k = none := by simpa using hn
    rcases List.mem_append.1 h with h | h
    · exact .inr ⟨h, mlk_none_iff.1 hn p h⟩
    · exact .inl (List.mem_singleton.1 h)
theorem mput_in (m : List (Int × α)) (k : Int) (v : α) : (k, v) ∈ mput m k v := mlk_mem (by rw [mlk_put, if_pos rfl])
theorem mem_mput {m : List (Int × α)} {k : Int} {v : α} {p : Int × α} (h : p ∈ m) (hk : p.1 ≠ k) : p ∈ mput m k v := by
  unfold mput
  split
  · exact List.mem_map.2 ⟨p, h, if_neg hk⟩
  · exact List.mem_append_left _ h
theorem NdK.del {m : List (Int × α)} (h : NdK m) (k : Int) : NdK (mdel m k) := (List.Sublist.map _ List.filter_sublist).nodup h
theorem NdK.filter {m : List (Int × α)} (h : NdK m) (f : Int × α → Bool) : NdK (m.filter f) := (List.Sublist.map _ List.filter_sublist).nodup h
theorem NdK.put {m : List (Int × α)} (h : NdK m) (k : Int) (v : α) : NdK (mput m k v) := by
  unfold mput
  split
  · have : (m.map fun p => if p.1 = k then (k, v) else p).map (·.1) = m.map (·.1) := by
      rw [List.map_map]
      refine List.map_congr_left fun p _ => ?_
      simp only [Function.comp]
      by_cases e : p.1 = k
      · simp [e]
      · simp [e]
    unfold NdK; rw [this]; exact h
  · rename_i hn
    have hn : mlk m k = none := by simpa using hn
    unfold NdK
    rw [List.map_append]
    refine List.nodup_append.2 ⟨h, by simp, ?_⟩
    intro a ha b hb
    simp only [List.map_cons, List.map_nil, List.mem_singleton] at hb
    subst hb
    obtain ⟨p, hp, rfl⟩ := List.mem_map.1 ha
    exact mlk_none_iff.1 hn p hp
theorem mput_len (m : List (Int × α)) (k : Int) (v : α) : (mput m k v).length = if (mlk m k).isSome then m.length else m.length + 1 := by
  unfold mput
  split
  · rw [List.length_map]
  · rw [List.length_append]; rfl
theorem mdel_in {m : List (Int × α)} {k : Int} {p : Int × α} : p ∈ mdel m k ↔ p ∈ m ∧ p.1 ≠ k := by unfold mdel; simp
theorem mput_same {m : List (Int × α)} {k : Int} {v : α} (hn : NdK m) (h : mlk m k = some v) : mput m k v = m := by
  unfold mput
  rw [h]
  simp only [Option.isSome_some, if_true]
  refine (List.map_congr_left fun p hp => ?_).trans (List.map_id m)
  by_cases e : p.1 = k
  · rw [if_pos e]
    have : mlk m p.1 = some p.2 := mem_mlk hn hp
    rw [e, h] at this
    rw [Option.some.inj this, ← e]; rfl
  · rw [if_neg e]; rfl
theorem vlk_is (m : List (Int × Value)) (k : Int) : vlk m k = mlk m k := rfl
theorem vput_is (m : List (Int × Value)) (k : Int) (v : Value) : vput m k v = mput m k v := rfl
theorem vdel_is (m : List (Int × Value)) (k : Int) : vdel m k = mdel m k := rfl
end
end Go.Eng
