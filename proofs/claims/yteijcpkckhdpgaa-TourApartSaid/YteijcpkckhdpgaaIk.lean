/- The document's example. -/
import Derived.Test.YteijcpkckhdpgaaIj
namespace Go.Proofs.Yteijcpkckhdpgaa.Pv
open Go

def x0 : Inst := ⟨1, 1, 9, 9, [⟨1, 1, [1], 0, 0, 0, 0, 0⟩], [[0, 3], [4, 0]]⟩
theorem e_d0 : dayT x0 [] = 0 := by decide
theorem e_c0 : W (costZ x0 []) = 0 := by decide
theorem e_c1 : W (costZ x0 [[⟨0, 2⟩]]) = 7 := by decide
theorem e_d1 : dayT x0 [[⟨0, 2⟩]] = 0 := by decide

set_option maxRecDepth 10000 in
theorem lives_ok : Pure Try.prog 12 [] (B true) := by
  have hx : x0.cust.length ≤ 1048576 := by decide
  refine pure_enter Try.func12 (by rfl) rfl Try.ntmps12 (congrArg Array.toList Try.results12) (by simp) fun S nx hd => ?_
  repeat refine pw_seq ?_
  refine pw_N [] (by rfl) (by rfl) fun K Gc Gh hK hGc hGh X hX0 hX => ?_
  simp -implicitDefEqProofs [hX0, hX]
  try clear hX0 hX X
  intros
  refine hK _ _ _ ?_
  clear hK hGc hGh
  clear K Gc Gh
  repeat refine pw_seq ?_
  refine pw_N [] (by rfl) (by rfl) fun K Gc Gh hK hGc hGh X hX0 hX => ?_
  simp -implicitDefEqProofs [hX0, hX]
  try clear hX0 hX X
  intro v1
  refine hK _ _ _ ?_
  clear hK hGc hGh
  clear K Gc Gh
  repeat refine pw_seq ?_
  refine pw_N [] (by rfl) (by rfl) fun K Gc Gh hK hGc hGh X hX0 hX => ?_
  simp -implicitDefEqProofs [hX0, hX]
  try clear hX0 hX X
  refine hGc _ _ _ _ _ _ _ fun hsuf => ((apartP_ok [⟨0, 2⟩] (by decide) _).mono ?_)
  rintro _ _ ⟨rfl, rfl⟩
  refine ⟨_, _, rfl, ?_⟩
  clear hGc hGh
  clear Gc Gh
  refine xs_go hsuf (D := []) (by rfl) fun Gc Gh hGc hGh X hX0 hX => ?_
  simp -implicitDefEqProofs [hX0, hX]
  try clear hX0 hX X
  intro v2
  intros
  refine hK _ _ _ ?_
  clear hK hGc hGh
  clear K Gc Gh
  repeat refine pw_seq ?_
  refine pw_N [(4, 17), (10, 23), (16, 29)] (by rfl) (by rfl) fun K Gc Gh hK hGc hGh X hX0 hX => ?_
  simp -implicitDefEqProofs [hX0, hX]
  try clear hX0 hX X
  refine hGc _ _ _ _ _ _ _ fun hsuf => ((pure_wk (.cons .rfl (.cons (.agg (.cons .nil .nil)) .nil)) (dayP_ok x0 [] hx (by decide) (by simp) (by decide)) _).mono ?_)
  rintro _ _ ⟨rfl, rfl⟩
  refine ⟨_, _, rfl, ?_⟩
  clear hGc hGh
  clear Gc Gh
  refine xs_go hsuf (D := [(4, 17), (10, 23), (16, 29)]) (by rfl) fun Gc Gh hGc hGh X hX0 hX => ?_
  simp -implicitDefEqProofs [hX0, hX, e_d0]
  try clear hX0 hX X
  refine hGc _ _ _ _ _ _ _ fun hsuf => ((pure_wk (.cons .rfl (.cons (.agg (.cons .nil .nil)) .nil)) (costP_ok x0 [] ⟨by decide, by simp, by simp⟩) _).mono ?_)
  rintro _ _ ⟨rfl, rfl⟩
  refine ⟨_, _, rfl, ?_⟩
  clear hGc hGh
  clear Gc Gh
  refine xs_go hsuf (D := [(4, 17), (10, 23), (16, 29)]) (by rfl) fun Gc Gh hGc hGh X hX0 hX => ?_
  simp -implicitDefEqProofs [hX0, hX, e_c0]
  try clear hX0 hX X
  refine hGc _ _ _ _ _ _ _ fun hsuf => ((costP_ok x0 [[⟨0, 2⟩]] ⟨by decide, by simp, by simp [small]⟩ _).mono ?_)
  rintro _ _ ⟨rfl, rfl⟩
  refine ⟨_, _, rfl, ?_⟩
  clear hGc hGh
  clear Gc Gh
  refine xs_go hsuf (D := [(4, 17), (10, 23), (16, 29)]) (by rfl) fun Gc Gh hGc hGh X hX0 hX => ?_
  simp -implicitDefEqProofs [hX0, hX, e_c1]
  try clear hX0 hX X
  refine hGc _ _ _ _ _ _ _ fun hsuf => ((dayP_ok x0 [[⟨0, 2⟩]] hx (by decide) (by simp) (by decide) _).mono ?_)
  rintro _ _ ⟨rfl, rfl⟩
  refine ⟨_, _, rfl, ?_⟩
  clear hGc hGh
  clear Gc Gh
  refine xs_go hsuf (D := [(4, 17), (10, 23), (16, 29)]) (by rfl) fun Gc Gh hGc hGh X hX0 hX => ?_
  simp -implicitDefEqProofs [hX0, hX, e_d1]
  try clear hX0 hX X
  intros
  refine hK _ _ _ ?_
  clear hK hGc hGh
  clear K Gc Gh
  repeat refine pw_seq ?_
  exact pw_ret (ret_pure hd rfl rfl)

end Go.Proofs.Yteijcpkckhdpgaa.Pv
