/- The laws lives and HeapSame. -/
import Derived.Test.YtdmmihkmcennpaaHh
namespace Go.Proofs.Ytdmmihkmcennpaa.Pv
open Go Hp

theorem HM.congr {S T : Store} {hid rid mid : Nat} {r : Its Int} (h : HM S hid rid mid r) (e : ∀ o ∈ [hid, rid, mid], T o = S o) : HM T hid rid mid r := by
  obtain ⟨l, ⟨⟨g, h, k⟩, hh⟩, pm, hs⟩ := h
  exact ⟨l, ⟨⟨g, h.congr e, k⟩, hh⟩, pm, hs⟩

theorem off_fin {S T : Store} {ids : List Nat} (h : Off S ids T) (hd : ∀ o ∈ ids, S o = .dead) : ∀ o, S o = T o ∨ S o = .dead := by
  intro o
  by_cases e : o ∈ ids
  · exact .inr (hd o e)
  · exact .inl (h o e).symm

theorem lives_ok {S : Store} : PCalls Try.prog 13 [] S (fun p S' => p = pbool true ∧ S' = S) := by
  refine pcalls_of_pw Try.func13 rfl Try.ntmps13 (congrArg Array.toList Try.results13) (by simp) ?_
  refine pw_seq (pw_R (by rfl) (by simp; rfl) (pw_seq (pw_L [] (by rfl) fun K hK => ?_)))
  simp -implicitDefEqProofs
  refine po_call rfl rfl rfl en14 (by exact heapNew_ok) fun p S1 hq => ?_
  obtain ⟨hid, rid, mid, rfl, d1, d2, d3, o1, m1⟩ := hq
  refine hK _ _ ?_
  clear hK
  refine pw_seq (pw_seq (pw_R (by rfl) (by simp; rfl) (pw_cond rfl (fun q => by simp at q) (fun _ => pw_skip ?_))))
  refine pw_seq (pw_L [] (by rfl) fun K hK => ?_)
  simp -implicitDefEqProofs
  refine po_call rfl rfl rfl en18 (by exact heapPut_ok m1 7 3 (by simp)) fun p S2 hq => ?_
  obtain ⟨_, o2, m2⟩ := hq
  rw [show (bif hasI 7 [] then [] else insI (7, 3) []) = [(7, 3)] from rfl] at m2
  refine hK _ _ ?_
  clear hK
  refine pw_seq (pw_L [] (by rfl) fun K hK => ?_)
  simp -implicitDefEqProofs
  refine po_call rfl rfl rfl en18 (by exact heapPut_ok m2 2 3 (by simp)) fun p S3 hq => ?_
  obtain ⟨_, o3, m3⟩ := hq
  rw [show (bif hasI 2 [((7 : Int), (3 : Int))] then [((7 : Int), (3 : Int))] else insI (2, 3) [(7, 3)]) = [(2, 3), (7, 3)] from rfl] at m3
  refine hK _ _ ?_
  clear hK
  refine pw_seq (pw_L [] (by rfl) fun K hK => ?_)
  simp -implicitDefEqProofs
  refine po_call rfl rfl rfl en18 (by exact heapPut_ok m3 5 1 (by simp)) fun p S4 hq => ?_
  obtain ⟨_, o4, m4⟩ := hq
  rw [show (bif hasI 5 [((2 : Int), (3 : Int)), (7, 3)] then [((2 : Int), (3 : Int)), (7, 3)] else insI (5, 1) [(2, 3), (7, 3)]) = [(5, 1), (2, 3), (7, 3)] from rfl] at m4
  refine hK _ _ ?_
  clear hK
  refine pw_seq (pw_L [] (by rfl) fun K hK => ?_)
  simp -implicitDefEqProofs
  refine po_call rfl rfl rfl en17 (by exact heapTake_ok m4) fun p S5 hq => ?_
  obtain ⟨rfl, o5, m5⟩ := hq
  simp -implicitDefEqProofs [headP, List.tail, pint, pbool] at m5 ⊢
  refine hK _ _ ?_
  clear hK
  refine pw_seq (pw_L [] (by rfl) fun K hK => ?_)
  simp -implicitDefEqProofs
  refine po_call rfl rfl rfl en17 (by exact heapTake_ok m5) fun p S6 hq => ?_
  obtain ⟨rfl, o6, m6⟩ := hq
  simp -implicitDefEqProofs [headP, List.tail, pint, pbool] at m6 ⊢
  refine hK _ _ ?_
  clear hK
  refine pw_seq (pw_L [] (by rfl) fun K hK => ?_)
  simp -implicitDefEqProofs
  refine po_call rfl rfl rfl en17 (by exact heapTake_ok m6) fun p S7 hq => ?_
  obtain ⟨rfl, o7, m7⟩ := hq
  simp -implicitDefEqProofs [headP, List.tail, pint, pbool] at m7 ⊢
  refine hK _ _ ?_
  clear hK
  refine pw_seq (pw_L [] (by rfl) fun K hK => ?_)
  simp -implicitDefEqProofs [pint, pbool]
  refine po_call rfl rfl rfl en16 (by exact heapLen_ok m7) fun p S8 hq => ?_
  obtain ⟨rfl, rfl⟩ := hq
  simp -implicitDefEqProofs [pint]
  refine hK _ _ (pw_ret ⟨_, S, rfl, ⟨rfl, rfl⟩, off_fin (ids := [hid, rid, mid]) (o1.trans (o2.trans (o3.trans (o4.trans (o5.trans (o6.trans o7)))))) ?_⟩)
  intro o ho
  simp at ho
  rcases ho with rfl | rfl | rfl
  · exact d1
  · exact d2
  · exact d3

end Go.Proofs.Ytdmmihkmcennpaa.Pv
