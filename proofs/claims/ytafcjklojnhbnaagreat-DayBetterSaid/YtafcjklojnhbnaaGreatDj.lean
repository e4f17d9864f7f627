/- The example of layer 15. -/
import Derived.Test.YtafcjklojnhbnaaGreatDi
namespace Go.Proofs.YtafcjklojnhbnaaGreat.Pv
open Go Hp

theorem arcOk_of {x : Inst} (h : ∀ row ∈ x.dist, ∀ d ∈ row, 0 ≤ d ∧ d ≤ 2147483648) : ArcOk x := by
  intro a b
  unfold arc
  split
  · omega
  · rw [List.getD_eq_getElem?_getD, List.getD_eq_getElem?_getD]
    cases hr : x.dist[a.toNat]? with
    | none => simp
    | some row =>
      simp only [Option.getD_some]
      cases hd : row[b.toNat]? with
      | none => simp
      | some d => exact h row (List.mem_of_getElem? hr) d (List.mem_of_getElem? hd)

def cu15 : Cust := ⟨1, 1, [1], 0, 0, 0, 0, 0⟩
def x15 : Inst := ⟨1, 1, 9, 99, [cu15], [[0, 5], [5, 0]]⟩
theorem x15_ok : ArcOk x15 := arcOk_of (by decide)
theorem j15 : joinP x15 [] = [] := by
  unfold joinP joinAll
  have : pairsP x15 (([] : List Stop).map (·.c)) = [] := (pairsP_of (x := x15) (c := []) (l := []) (by decide) (by decide) (by unfold Sd; decide)).symm
  rw [this]
  rfl
theorem r15 : solveR x15 0 [[], [], [], []] = ([], 0) := by decide
theorem m15 : mayT x15 [⟨0, 1⟩] = 0 := by decide

theorem solve15_ok : Pure Tryz.prog 15 [.agg (instL x15), nilS, I 0] (.tup [.agg [L ([] : Day)], I 0]) := by
  have hA : Pure Tryz.prog 59 [nilS] (.agg [L ([] : Day)]) := pure_wk (.cons .nil .nil) (apartP_ok [] (by decide))
  have hF : Pure Tryz.prog 11 [.agg (instL x15), nilS] (I 0) := pure_wk (.cons .rfl (.cons .nil .nil)) (fitsP_ok x15 [] (by decide) (by decide))
  have hJ : Pure Tryz.prog 61 [.agg (instL x15), nilS] (.agg [L ([] : Day)]) := by
    have := pure_wk (.cons .rfl (.cons .nil .nil)) (join_all_ok x15 [] x15_ok (by decide) (by decide) (by simp) (by decide))
    rwa [j15] at this
  have hI := improve0_ok x15
  have hit := tries_iter (fsL x15 nilS 0) [some [], some [], some [], some []] rfl (by decide) (by
    intro k f hf
    match k with
    | 0 => cases hf; exact ⟨_, _, L ([] : Day), rfl, try1_ok nilS [] plike_nil hA, fun d hd => by cases hd; rfl⟩
    | 1 => cases hf; exact ⟨_, _, L ([] : Day), rfl, try2_ok x15 nilS 0 [] [] 0 plike_nil hJ hI, fun d hd => by cases hd; rfl⟩
    | 2 => cases hf; exact ⟨_, _, L ([] : Day), rfl, try3_ok x15 nilS 0 [] [] 0 plike_nil hA hI, fun d hd => by cases hd; rfl⟩
    | 3 => cases hf; exact ⟨_, _, L ([] : Day), rfl, try4_ok x15 nilS 0 [] [] true 0 plike_nil (regret0_ok x15) (fun _ => hI), fun d hd => by cases hd; rfl⟩
    | k + 4 => cases hf)
  have := solve_ok x15 nilS 0 0 [[], [], [], []] plike_nil (by decide) hF hit (fun d hd => by
    have : d = [] := by simpa using hd
    subst this
    exact ⟨⟨by decide, by simp, by simp⟩, by decide⟩)
  rwa [r15] at this

set_option maxRecDepth 20000 in
theorem lives15_ok : Pure Tryz.prog 13 [] (B true) := by
  have h1 := solve15_ok
  have h2 := insert0_ok x15 ⟨0, 1⟩ (by decide) m15 (by decide) (by unfold small; decide)
  refine pure_enter Tryz.func13 (by rfl) rfl Tryz.ntmps13 (congrArg Array.toList Tryz.results13) (by simp) fun S nx hd => ?_
  repeat refine pw_seq ?_
  refine pw_N [] (by rfl) (by rfl) fun K Gc Gh hK hGc hGh X hX0 hX => ?_
  simp -implicitDefEqProofs [hX0, hX]
  try clear hX0 hX X
  intros
  refine hK _ _ _ ?_
  clear hK hGc hGh
  clear K Gc Gh
  repeat refine pw_seq ?_
  refine pw_N [] (by rfl) (by rfl) fun K Gc Gh hK hGc hGh X hX0 hX => ?_
  simp -implicitDefEqProofs [hX0, hX]
  try clear hX0 hX X
  intro v0
  refine hK _ _ _ ?_
  clear hK hGc hGh
  clear K Gc Gh
  repeat refine pw_seq ?_
  refine pw_N [] (by rfl) (by rfl) fun K Gc Gh hK hGc hGh X hX0 hX => ?_
  simp -implicitDefEqProofs [hX0, hX]
  try clear hX0 hX X
  intro v1
  refine hK _ _ _ ?_
  clear hK hGc hGh
  clear K Gc Gh
  repeat refine pw_seq ?_
  refine pw_N [] (by rfl) (by rfl) fun K Gc Gh hK hGc hGh X hX0 hX => ?_
  simp -implicitDefEqProofs [hX]
  try clear hX0 hX X
  refine hGc _ _ _ _ _ _ _ fun hsuf => ((h1 _).mono ?_).v
  rintro _ _ ⟨rfl, rfl⟩
  refine ⟨_, _, rfl, ?_⟩
  clear hGc hGh
  clear Gc Gh
  refine xs_go hsuf (D := []) (by rfl) fun Gc Gh hGc hGh X hX0 hX => ?_
  simp -implicitDefEqProofs [hX0, hX]
  try clear hX0 hX X
  intro v2
  intros
  refine hK _ _ _ ?_
  clear hK hGc hGh
  clear K Gc Gh
  repeat refine pw_seq ?_
  refine pw_N [] (by rfl) (by rfl) fun K Gc Gh hK hGc hGh X hX0 hX => ?_
  simp -implicitDefEqProofs [hX]
  try clear hX0 hX X
  refine hGc _ _ _ _ _ _ _ fun hsuf => ((h2 _).mono ?_).v
  rintro _ _ ⟨rfl, rfl⟩
  refine ⟨_, _, rfl, ?_⟩
  clear hGc hGh
  clear Gc Gh
  refine xs_go hsuf (D := []) (by rfl) fun Gc Gh hGc hGh X hX0 hX => ?_
  simp -implicitDefEqProofs [hX0, hX]
  try clear hX0 hX X
  intro v3
  intros
  refine hK _ _ _ ?_
  clear hK hGc hGh
  clear K Gc Gh
  repeat refine pw_seq ?_
  refine pw_N [(4, 31), (8, 35), (14, 41)] (by rfl) (by rfl) fun K Gc Gh hK hGc hGh X hX0 hX => ?_
  simp -implicitDefEqProofs [hX0, hX]
  try clear hX0 hX X
  intros
  refine hK _ _ _ ?_
  clear hK hGc hGh
  clear K Gc Gh
  repeat refine pw_seq ?_
  exact pw_ret (ret_pure hd rfl rfl)

end Go.Proofs.YtafcjklojnhbnaaGreat.Pv
