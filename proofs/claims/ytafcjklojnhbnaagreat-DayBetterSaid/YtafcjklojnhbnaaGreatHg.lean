/- The methods of Heap[int], told by a sorted list: First, Worth, Take, New. -/
import Derived.Test.YtafcjklojnhbnaaGreatHf
namespace Go.Proofs.YtafcjklojnhbnaaGreat.Hp
section
variable {α : Type} [DecidableEq α] [Inhabited α] {lt : α → α → Bool}

theorem heap_root (hs : Str lt) {l : Its α} (h : Heap lt l l.length) : ∀ k, k < l.length → il lt (ata l k) (ata l 0) = false := by
  intro k
  induction k using Nat.strongRecOn with
  | _ k ih =>
    intro hk
    rcases Nat.eq_zero_or_pos k with e | e
    · subst e; exact (il_str hs).irr _
    · have := par_lt e
      exact nlt_trans hs (h k e hk) (ih (par k) this (by omega))
end
end Go.Proofs.YtafcjklojnhbnaaGreat.Hp
namespace Go.Proofs.YtafcjklojnhbnaaGreat.Pv
open Go Hp

theorem HM.root {S : Store} {hid hv rid mid mv : Nat} {x : Int × Int} {r : Its Int} {l : Its Int} (h : HH S hid hv rid mid mv l) (pm : l.Perm (x :: r)) (hs : SortedI (x :: r)) : ata l 0 = x := by
  have hl : 0 < l.length := by rw [pm.length_eq]; simp
  obtain ⟨k, hk, e⟩ := mem_ata (pm.symm.subset (List.mem_cons_self))
  have h1 := heap_root ltI_str h.2 k hk
  rw [e] at h1
  rcases List.mem_cons.1 (pm.subset (ata_mem hl)) with h2 | h2
  · exact h2
  · have := (List.pairwise_cons.1 hs).1 _ h2
    rw [show ilt x (ata l 0) = false from h1] at this; cases this

/-- The first thing, as First and Take answer it. -/
def headP : Its Int → PV
  | [] => .tup [pint 0, pint 0, pbool false]
  | x :: _ => .tup [pint x.1, pint x.2, pbool true]

theorem heapFirst_ok {S : Store} {hid hv rid mid mv : Nat} {r : Its Int} (h : HM S hid hv rid mid mv r) :
    PCalls Tryz.prog 146 [.ptr hid hv 0] S (fun p S' => p = headP r ∧ S' = S) := by
  obtain ⟨l, hh, pm, hs⟩ := h
  have hp := hh.1
  obtain ⟨g, hS, hk⟩ := hp
  obtain ⟨ver, h1, cs, h2, hR⟩ := hS.h
  refine pcalls_of_pw Tryz.func146 rfl Tryz.ntmps146 (congrArg Array.toList Tryz.results146) (by simp) ?_
  refine pw_seq (pw_R (by rfl) (by simp; rfl) (pw_seq (pw_seq (pw_L [] (by rfl) fun K hK => ?_))))
  simp -implicitDefEqProofs [h1]
  refine hK _ _ ?_
  clear hK
  cases r with
  | nil =>
    have hl : l.length = 0 := by rw [pm.length_eq]; rfl
    refine pw_cond rfl (fun _ => ?_) (fun q => by simp at q; exact absurd (List.eq_nil_of_length_eq_zero hl) q)
    refine pw_seq (pw_R (by rfl) (by simp; rfl) (pw_seq (pw_R (by rfl) (by simp; rfl) (pw_ret ?_))))
    exact ⟨_, S, rfl, ⟨rfl, rfl⟩, fun o => .inl rfl⟩
  | cons x r =>
    have hl : 0 < l.length := by rw [pm.length_eq]; simp
    have hx := HM.root hh pm hs
    obtain ⟨tl, e1⟩ := hR.at 0 hl
    rw [hx] at e1
    simp at e1
    refine pw_cond rfl (fun q => by simp at q; subst q; simp at hl) (fun _ => pw_skip ?_)
    refine pw_seq (pw_L [] (by rfl) fun K hK => ?_)
    have hl' : 0 < l.length := hl
    simp -implicitDefEqProofs [h1, h2, hl', e1]
    refine po_alloc rfl (by simp; rfl) (by simp) fun a ha => ?_
    simp -implicitDefEqProofs
    refine hK _ _ ?_
    clear hK
    refine pw_seq (pw_D mixed (by rfl) (by rfl) (by rfl) (by simp; rfl) (pw_ret ?_))
    refine ⟨_, S, rfl, ⟨rfl, rfl⟩, fun o => ?_⟩
    by_cases e : o = a
    · exact .inr (e ▸ ha)
    · exact .inl (by rw [set_ne _ _ _ _ e])

/-- What Worth answers. -/
def worthP (id : Int) (r : Its Int) : PV :=
  match r.find? fun x => decide (x.1 = id) with
  | some x => .tup [pint x.2, pbool true]
  | none => .tup [pint 0, pbool false]

theorem find_once {id : Int} {r : Its Int} (h : Once r) {x : Int × Int} (hx : x ∈ r) (e : x.1 = id) : r.find? (fun x => decide (x.1 = id)) = some x := by
  induction r with
  | nil => cases hx
  | cons y r ih =>
    have h' := List.nodup_cons.1 (show (y.1 :: r.map (·.1)).Nodup from h)
    rcases List.mem_cons.1 hx with rfl | hx
    · simp [e]
    · rw [List.find?_cons_of_neg, ih h'.2 hx]
      simp
      intro q
      exact h'.1 (List.mem_map.2 ⟨x, hx, by rw [e, q]⟩)

theorem heapTake_ok {S : Store} {hid hv rid mid mv : Nat} {r : Its Int} (h : HM S hid hv rid mid mv r) :
    PCalls Tryz.prog 128 [.ptr hid hv 0] S (fun p S' => p = headP r ∧ Off S [hid, rid, mid] S' ∧ HM S' hid hv rid mid mv r.tail) := by
  refine pcalls_of_pw Tryz.func128 rfl Tryz.ntmps128 (congrArg Array.toList Tryz.results128) (by simp) ?_
  refine pw_seq (pw_R (by rfl) (by simp; rfl) (pw_seq (pw_L [] (by rfl) fun K hK => ?_)))
  simp -implicitDefEqProofs
  refine po_call rfl rfl rfl en146 (by exact heapFirst_ok h) fun p S2 hq => ?_
  obtain ⟨rfl, rfl⟩ := hq
  cases r with
  | nil =>
    simp -implicitDefEqProofs [headP]
    refine hK _ _ ?_
    clear hK
    refine pw_seq (pw_seq (pw_R (by rfl) (by simp; rfl) (pw_cond rfl (fun q => by simp at q) (fun _ => pw_skip ?_))))
    refine pw_seq (pw_R (by rfl) (by simp; rfl) (pw_ret ?_))
    exact ⟨_, S2, rfl, ⟨rfl, fun _ _ => rfl, h⟩, fun o => .inl rfl⟩
  | cons x r =>
    simp -implicitDefEqProofs [headP]
    refine hK _ _ ?_
    clear hK
    refine pw_seq (pw_seq (pw_R (by rfl) (by simp; rfl) (pw_cond rfl (fun _ => ?_) (fun q => by simp at q))))
    refine pw_L [] (by rfl) fun K hK => ?_
    simp -implicitDefEqProofs
    refine po_call rfl rfl rfl en147 (by exact heapDrop_ok h x.1) fun p S3 hq => ?_
    obtain ⟨_, o3, h3⟩ := hq
    refine hK _ _ ?_
    clear hK
    refine pw_seq (pw_R (by rfl) (by simp; rfl) (pw_ret ?_))
    rw [outI_cons h.once] at h3
    exact ⟨_, S3, rfl, ⟨rfl, o3, h3⟩, fun o => .inl rfl⟩

end Go.Proofs.YtafcjklojnhbnaaGreat.Pv
