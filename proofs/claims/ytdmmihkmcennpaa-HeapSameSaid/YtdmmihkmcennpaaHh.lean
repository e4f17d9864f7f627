/- New, and the plain reference of the heap. -/
import Derived.Test.YtdmmihkmcennpaaHg
namespace Go.Proofs.Ytdmmihkmcennpaa.Pv
open Go Hp

theorem heapNew_ok {S : Store} :
    PCalls Try.prog 14 [] S (fun p S' => ∃ hid rid mid, p = .ptr hid 0 0 ∧ S hid = .dead ∧ S rid = .dead ∧ S mid = .dead ∧ Off S [hid, rid, mid] S' ∧ HM S' hid rid mid []) := by
  refine pcalls_of_pw Try.func14 rfl Try.ntmps14 (congrArg Array.toList Try.results14) (by simp) ?_
  refine pw_seq (pw_R (by rfl) (by simp; rfl) (pw_seq (pw_L [] (by rfl) fun K hK => ?_)))
  simp -implicitDefEqProofs
  refine po_makeMap rfl fun mid hm => ?_
  simp -implicitDefEqProofs
  refine po_box rfl (by simp) fun hid hh => ?_
  simp -implicitDefEqProofs
  have n1 := dead_set hh (by simp)
  refine hK _ _ ?_
  clear hK
  refine pw_nilOb (o := hid) 0 72 2 (set_same' _ _ _) rfl fun rid hr => pw_ret ?_
  have n2 := dead_set hr (by simp)
  have n3 := dead_set n2.2 (by simp)
  refine ⟨_, _, rfl, ⟨hid, rid, mid, rfl, n1.2, n3.2, hm, ?_, [], ⟨⟨fun _ => none, ⟨⟨0, set_same' _ _ _, [], ?_, [], rfl⟩, ⟨[], ?_, mapIs_nil _ _⟩, ⟨n2.1.symm, n1.1, n3.1⟩, by simp⟩, ⟨fun i hi => by simp at hi, fun _ _ => rfl⟩⟩, fun k k0 kn => by simp at kn⟩, .refl _, by simp [SortedI]⟩, fun o => .inl rfl⟩
  · intro o ho
    simp at ho
    rw [set_ne _ _ _ _ ho.1, set_ne _ _ _ _ ho.2.1, set_ne _ _ _ _ ho.1, set_ne _ _ _ _ ho.2.2]
  · rw [set_ne _ _ _ _ n2.1, set_same']
  · rw [set_ne _ _ _ _ n1.1.symm, set_ne _ _ _ _ n3.1.symm, set_ne _ _ _ _ n1.1.symm, set_same']

end Go.Proofs.Ytdmmihkmcennpaa.Pv
