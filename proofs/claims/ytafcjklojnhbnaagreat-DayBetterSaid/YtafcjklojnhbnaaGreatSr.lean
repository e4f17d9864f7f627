/- The places of a row of integers in the order of what stands there: sorted in one way or in another, they are the same. No program in sight. -/
import Derived.Test.YtafcjklojnhbnaaGreatHk
import Derived.Shelf.SlSortCmp.Insertion
namespace Go.Proofs.YtafcjklojnhbnaaGreat.Pv
open Go Hp Go.Sort

def cmp3 (a b : Int) : Int := if a < b then -1 else if b < a then 1 else 0
/-- What a place is sorted by. -/
def itW (l : List Int) (i : Nat) : Int × Int := ((i : Int), l.getD i 0)
def cfW (l : List Int) (i j : Fin l.length) : Int := if cmp3 (l.getD i 0) (l.getD j 0) = 0 then cmp3 (i.val : Int) j.val else cmp3 (l.getD i 0) (l.getD j 0)

theorem lt_cfW (l : List Int) (i j : Fin l.length) : ltOf (cfW l) i j = ilt (itW l i) (itW l j) := by
  unfold ltOf cfW cmp3 ilt il itW ltI
  simp only
  generalize l.getD i.val 0 = a
  generalize l.getD j.val 0 = b
  by_cases h : a = b
  · subst h
    have e1 : (if a < a then (-1 : Int) else if a < a then 1 else 0) = 0 := by rw [if_neg (by omega), if_neg (by omega)]
    rw [e1, if_pos rfl, if_pos rfl]
    by_cases h4 : (i.val : Int) < j.val
    · rw [if_pos h4]; simp; omega
    · rw [if_neg h4]
      by_cases h5 : (j.val : Int) < i.val
      · rw [if_pos h5]; simp; omega
      · rw [if_neg h5]; simp; omega
  · rw [if_neg h]
    by_cases h2 : a < b
    · have e1 : (if a < b then (-1 : Int) else if b < a then 1 else 0) = -1 := by rw [if_pos h2]
      rw [e1, if_neg (by decide)]; simp [h2]
    · have e1 : (if a < b then (-1 : Int) else if b < a then 1 else 0) = 1 := by rw [if_neg h2, if_pos (by omega)]
      rw [e1, if_neg (by decide)]; simp [h2]

theorem swo_cfW (l : List Int) : SWO (ltOf (cfW l)) := by
  have H := il_str ltI_str
  refine ⟨fun x => ?_, fun x y z h1 h2 => ?_, fun x y z h1 h2 => ?_⟩
  · rw [lt_cfW]; exact H.irr _
  · rw [lt_cfW] at *; exact H.tr _ _ _ h1 h2
  · rw [lt_cfW] at *
    cases h : ilt (itW l x) (itW l z) with
    | false => rfl
    | true =>
      exfalso
      cases h3 : ilt (itW l y) (itW l x) with
      | true => have hh : ilt (itW l y) (itW l z) = true := H.tr _ _ _ h3 h; rw [h2] at hh; cases hh
      | false =>
        have e := H.tot _ _ h1 h3
        rw [e, h2] at h; cases h
theorem tot_cfW (l : List Int) : ∀ x y, ltOf (cfW l) x y = false → ltOf (cfW l) y x = false → x = y := by
  intro x y h1 h2
  rw [lt_cfW] at h1 h2
  have := (il_str ltI_str).tot _ _ h1 h2
  have : (x.val : Int) = y.val := congrArg Prod.fst this
  exact Fin.ext (by omega)

/-- The places, sorted. -/
def sortF (l : List Int) : List (Fin l.length) := (List.finRange l.length).mergeSort fun x y => !(ltOf (cfW l)) y x

theorem sortF_perm (l : List Int) : (sortF l).Perm (List.finRange l.length) := List.mergeSort_perm _ _
theorem sortF_items (l : List Int) : ((sortF l).map fun i : Fin l.length => itW l i.val).Perm ((List.range l.length).map (itW l)) := by
  refine ((sortF_perm l).map _).trans ?_
  have e : (List.finRange l.length).map (fun i : Fin l.length => itW l i.val) = (List.range l.length).map (itW l) := by
    apply List.ext_getElem
    · simp
    · intro i h1 h2; simp
  rw [e]
theorem sortF_nodup (l : List Int) : (sortF l).Nodup := (sortF_perm l).nodup_iff.2 (List.nodup_finRange _)

theorem sortF_sorted (l : List Int) : SortedI ((sortF l).map fun i : Fin l.length => itW l i.val) := by
  have H := il_str ltI_str
  have h1 : (sortF l).Pairwise fun a b => (!(ltOf (cfW l)) b a) = true := by
    refine List.pairwise_mergeSort ?_ ?_ _
    · intro a b c h1 h2
      simp only [Bool.not_eq_true'] at *
      exact (swo_cfW l).ntrans c b a h2 h1
    · intro a b
      simp only [Bool.or_eq_true, Bool.not_eq_true']
      cases h : ltOf (cfW l) b a with
      | false => exact .inl rfl
      | true =>
        refine .inr ?_
        cases h2 : ltOf (cfW l) a b with
        | false => rfl
        | true => have := (swo_cfW l).trans _ _ _ h h2; rw [(swo_cfW l).irrefl] at this; cases this
  have h2 := List.Pairwise.and h1 (sortF_nodup l)
  unfold SortedI
  refine List.Pairwise.map _ ?_ h2
  rintro a b ⟨h3, h4⟩
  have h3' : ltOf (cfW l) b a = false := by simpa using h3
  rw [← lt_cfW]
  cases h : ltOf (cfW l) a b with
  | true => rfl
  | false => exact absurd (tot_cfW l a b h h3') h4

/-- The same by putting one after another to its place. -/
def refS (l : List Int) : Nat → Its Int
  | 0 => []
  | k + 1 => putL k (l.getD k 0) (refS l k)
theorem refS_spec (l : List Int) : ∀ k : Nat, (refS l k).Perm ((List.range k).map (itW l)) ∧ SortedI (refS l k)
  | 0 => ⟨.refl _, .nil⟩
  | k + 1 => by
    obtain ⟨h1, h2⟩ := refS_spec l k
    have hno : ∀ y ∈ refS l k, y.1 ≠ (k : Int) := by
      intro y hy
      obtain ⟨i, hi, rfl⟩ := List.mem_map.1 (h1.subset hy)
      have := List.mem_range.1 hi
      simp only [itW]; omega
    have hha : hasI k (refS l k) = false := by
      unfold hasI
      rw [List.any_eq_false]
      intro y hy
      simpa using hno y hy
    unfold refS
    rw [putL_f hha]
    refine ⟨?_, insI_sorted _ _ h2 hno⟩
    rw [List.range_succ, List.map_append]
    exact (insI_perm _ _).trans ((h1.cons _).trans (List.perm_append_comm (l₁ := [itW l k])))

theorem sorts_same (l : List Int) : ((sortF l).map fun i : Fin l.length => itW l i.val) = refS l l.length :=
  sorted_eq ((sortF_items l).trans (refS_spec l l.length).1.symm) (sortF_sorted l) (refS_spec l l.length).2

/-- The places, sorted, as integers. -/
def sortI (l : List Int) : List Int := (sortF l).map fun i => (i.val : Int)
theorem sortI_ref (l : List Int) : sortI l = (refS l l.length).map (·.1) := by
  rw [← sorts_same, List.map_map]; rfl
theorem sortI_len (l : List Int) : (sortI l).length = l.length := by
  unfold sortI; rw [List.length_map, (sortF_perm l).length_eq]; simp
theorem sortI_mem {l : List Int} {z : Int} (h : z ∈ sortI l) : 0 ≤ z ∧ z < l.length := by
  obtain ⟨i, _, rfl⟩ := List.mem_map.1 h
  have := i.isLt
  omega
theorem sortI_nodup (l : List Int) : (sortI l).Nodup := by
  refine List.Pairwise.map _ ?_ (sortF_nodup l)
  intro a b h e
  exact h (Fin.ext (by omega))
theorem sortI_adj {l : List Int} {k : Nat} {a b : Int} (ha : (sortI l)[k]? = some a) (hb : (sortI l)[k + 1]? = some b) :
    ¬ l.getD b.toNat 0 < l.getD a.toNat 0 ∧ ¬ (l.getD a.toNat 0 = l.getD b.toNat 0 ∧ b < a) := by
  unfold sortI at ha hb
  rw [List.getElem?_map] at ha hb
  obtain ⟨i, hi, rfl⟩ := Option.map_eq_some_iff.1 ha
  obtain ⟨j, hj, rfl⟩ := Option.map_eq_some_iff.1 hb
  have hs := sortF_sorted l
  unfold SortedI at hs
  obtain ⟨hk, ei⟩ := List.getElem?_eq_some_iff.1 hi
  obtain ⟨hk1, ej⟩ := List.getElem?_eq_some_iff.1 hj
  have := List.pairwise_iff_getElem.1 hs k (k + 1) (by simpa using hk) (by simpa using hk1) (by omega)
  rw [List.getElem_map, List.getElem_map, ei, ej] at this
  unfold ilt il itW ltI at this
  simp only at this
  rw [Int.toNat_natCast, Int.toNat_natCast]
  generalize l.getD i.val 0 = x at *
  generalize l.getD j.val 0 = y at *
  by_cases h : x = y
  · rw [if_pos h] at this; simp at this; omega
  · rw [if_neg h] at this; simp at this; omega

end Go.Proofs.YtafcjklojnhbnaaGreat.Pv
