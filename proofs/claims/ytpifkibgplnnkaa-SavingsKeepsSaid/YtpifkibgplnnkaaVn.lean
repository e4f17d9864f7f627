/- The example of layer 13. -/
import Derived.Test.YtpifkibgplnnkaaVm
namespace Go.Proofs.Ytpifkibgplnnkaa.Pv
open Go Hp

theorem arcOk_of {x : Inst} (h : ∀ row ∈ x.dist, ∀ d ∈ row, 0 ≤ d ∧ d ≤ 2147483648) : ArcOk x := by
  intro a b
  unfold arc
  split
  · omega
  · rw [List.getD_eq_getElem?_getD, List.getD_eq_getElem?_getD]
    cases hr : x.dist[a.toNat]? with
    | none => simp
    | some row =>
      simp only [Option.getD_some]
      cases hd : row[b.toNat]? with
      | none => simp
      | some d => exact h row (List.mem_of_getElem? hr) d (List.mem_of_getElem? hd)

def cu13 : Cust := ⟨1, 1, [1], 0, 0, 0, 0, 0⟩
def x13 : Inst := ⟨1, 2, 9, 99, [cu13, cu13], [[0, 5, 5], [5, 0, 1], [5, 9, 0]]⟩
def s13 : List Stop := [⟨0, 1⟩, ⟨1, 1⟩]
theorem x13_ok : ArcOk x13 := arcOk_of (by decide)
theorem p13 : pairsP x13 (s13.map (·.c)) = [⟨0, 1, 9⟩, ⟨1, 0, 1⟩] := (pairsP_of (by decide) (by decide) (by unfold Sd; decide)).symm
theorem j13 : (joinP x13 s13).length = 1 := by
  unfold joinP joinAll
  rw [p13]
  decide
theorem j13n : (joinP x13 []).length = 0 := by
  unfold joinP joinAll
  have : pairsP x13 (([] : List Stop).map (·.c)) = [] := (pairsP_of (x := x13) (c := []) (l := []) (by decide) (by decide) (by unfold Sd; decide)).symm
  rw [this]
  decide
theorem v13 : savZ x13 0 1 = 9 := by decide

set_option maxRecDepth 20000 in
theorem lives13_ok : Pure Try.prog 20 [] (B true) := by
  have h1 := join_all_ok x13 s13 x13_ok (by decide) (by decide) (by unfold small; decide) (by decide)
  have h2 := pure_wk (.cons .rfl (.cons .nil .nil)) (join_all_ok x13 [] x13_ok (by decide) (by decide) (by simp) (by decide))
  have h3 := savesP_ok x13 0 1 x13_ok (by unfold small; decide) (by unfold small; decide)
  rw [v13] at h3
  have j1 := j13
  have j2 := j13n
  generalize joinP x13 s13 = d1 at *
  generalize joinP x13 [] = d2 at *
  refine pure_enter Try.func20 (by rfl) rfl Try.ntmps20 (congrArg Array.toList Try.results20) (by simp) fun S nx hd => ?_
  repeat refine pw_seq ?_
  refine pw_N [] (by rfl) (by rfl) fun K Gc Gh hK hGc hGh X hX0 hX => ?_
  simp -implicitDefEqProofs [hX0, hX]
  try clear hX0 hX X
  intros
  refine hK _ _ _ ?_
  clear hK hGc hGh
  clear K Gc Gh
  repeat refine pw_seq ?_
  refine pw_N [] (by rfl) (by rfl) fun K Gc Gh hK hGc hGh X hX0 hX => ?_
  simp -implicitDefEqProofs [hX0, hX]
  try clear hX0 hX X
  intro v0
  refine hK _ _ _ ?_
  clear hK hGc hGh
  clear K Gc Gh
  repeat refine pw_seq ?_
  refine pw_N [] (by rfl) (by rfl) fun K Gc Gh hK hGc hGh X hX0 hX => ?_
  simp -implicitDefEqProofs [hX0, hX]
  try clear hX0 hX X
  intro v1
  refine hK _ _ _ ?_
  clear hK hGc hGh
  clear K Gc Gh
  repeat refine pw_seq ?_
  refine pw_N [] (by rfl) (by rfl) fun K Gc Gh hK hGc hGh X hX0 hX => ?_
  simp -implicitDefEqProofs [hX]
  try clear hX0 hX X
  refine hGc _ _ _ _ _ _ _ fun hsuf => ((h1 _).mono ?_).v
  rintro _ _ ⟨rfl, rfl⟩
  refine ⟨_, _, rfl, ?_⟩
  clear hGc hGh
  clear Gc Gh
  refine xs_go hsuf (D := []) (by rfl) fun Gc Gh hGc hGh X hX0 hX => ?_
  simp -implicitDefEqProofs [hX0, hX]
  clear hX0 hX X
  intro v2
  intros
  refine hK _ _ _ ?_
  clear hK hGc hGh
  clear K Gc Gh
  repeat refine pw_seq ?_
  refine pw_N [(3, 22), (9, 28)] (by rfl) (by rfl) fun K Gc Gh hK hGc hGh X hX0 hX => ?_
  simp -implicitDefEqProofs [hX]
  try clear hX0 hX X
  refine hGc _ _ _ _ _ _ _ fun hsuf => ((h3 _).mono ?_).v
  rintro _ _ ⟨rfl, rfl⟩
  refine ⟨_, _, rfl, ?_⟩
  clear hGc hGh
  clear Gc Gh
  refine xs_go hsuf (D := [(3, 22), (9, 28)]) (by rfl) fun Gc Gh hGc hGh X hX0 hX => ?_
  simp -implicitDefEqProofs [hX, j1]
  try clear hX0 hX X
  refine hGc _ _ _ _ _ _ _ fun hsuf => ((h2 _).mono ?_).v
  rintro _ _ ⟨rfl, rfl⟩
  refine ⟨_, _, rfl, ?_⟩
  clear hGc hGh
  clear Gc Gh
  refine xs_go hsuf (D := [(3, 22), (9, 28)]) (by rfl) fun Gc Gh hGc hGh X hX0 hX => ?_
  simp -implicitDefEqProofs [hX0, hX, j2]
  try clear hX0 hX X
  intros
  refine hK _ _ _ ?_
  clear hK hGc hGh
  clear K Gc Gh
  repeat refine pw_seq ?_
  exact pw_ret (ret_pure hd rfl rfl)

end Go.Proofs.Ytpifkibgplnnkaa.Pv
