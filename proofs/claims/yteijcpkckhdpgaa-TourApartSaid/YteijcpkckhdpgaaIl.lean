/- The law TourMay: what it computes. -/
import Derived.Test.YteijcpkckhdpgaaPl
namespace Go.Proofs.Yteijcpkckhdpgaa.Pv
open Go


theorem take_flat (t : List Stop) (k : Nat) : (t.flatMap Enc.enc).take (k * 2) = (t.take k).flatMap Enc.enc := flat_take Enc.enc 2 (fun _ => rfl) t k

set_option maxRecDepth 10000 in
theorem tourMay_ok (x : Inst) (t : Tour) (hx : InstOk x) : Pure Try.prog 3 [.agg (instL x), .agg [L t]] (B true) := by
  have hc := goodI_cust' x
  refine pure_enter Try.func3 (by rfl) rfl Try.ntmps3 (congrArg Array.toList Try.results3) (by simp) fun S nx hd => ?_
  repeat refine pw_seq ?_
  refine pw_N [] (by rfl) (by rfl) fun K Gc Gh hK hGc hGh X hX0 hX => ?_
  simp -implicitDefEqProofs [hX0, hX]
  try clear hX0 hX X
  intro v0 v1
  refine hK _ _ _ ?_
  clear hK hGc hGh
  clear K Gc Gh
  repeat refine pw_seq ?_
  refine pw_N [] (by rfl) (by rfl) fun K Gc Gh hK hGc hGh X hX0 hX => ?_
  simp -implicitDefEqProofs [hX0, hX]
  try clear hX0 hX X
  refine hGc _ _ _ _ _ _ _ fun hsuf => ((goodI_ok x hx _).mono ?_)
  rintro _ _ ⟨rfl, rfl⟩
  refine ⟨_, _, rfl, ?_⟩
  clear hGc hGh
  clear Gc Gh
  refine xs_go hsuf (D := []) (by rfl) fun Gc Gh hGc hGh X hX0 hX => ?_
  simp -implicitDefEqProofs [hX0, hX]
  try clear hX0 hX X
  intro v2
  intros
  refine hK _ _ _ ?_
  clear hK hGc hGh
  clear K Gc Gh
  refine pw_seq (pw_joinK (nx := nx) (σ := Tour × Nat × Nat × Nat) (fun s => s.1.length ≤ 8) (fun (t, v0, v1, v2) => [(2, .ptr nx v0 0), (3, .ptr (nx + 1) v1 0), (5, .ptr (nx + 2) v2 0)]) (fun _ => S)
    (fun (t, v0, v1, v2) => [.cells v0 25 (instL x), .cells v1 28 [L t], .cells v2 25 (instL (goodI x))]) ?_ ?_)
  · repeat refine pw_seq ?_
    refine pw_N [] (by rfl) (by rfl) fun K Gc Gh hK hGc hGh X hX0 hX => ?_
    simp -implicitDefEqProofs [hX0, hX]
    try clear hX0 hX X
    intros
    refine hK _ _ _ ?_
    clear hK hGc hGh
    clear K Gc Gh
    repeat refine pw_seq ?_
    refine pw_cond rfl (fun h => ?_) (fun h => ?_)
    · simp at h
      have e8 := take_flat t 8
      have h8 : 8 ≤ t.length := by omega
      have l8 : (t.take 8).length = 8 := by simp; omega
      repeat refine pw_seq ?_
      refine pw_N [] (by rfl) (by rfl) fun K Gc Gh hK hGc hGh X hX0 hX => ?_
      simp -implicitDefEqProofs [hX0, hX, h8, e8]
      try clear hX0 hX X
      intros
      refine hK _ _ _ ?_
      clear hK hGc hGh
      clear K Gc Gh
      exact at_mk (t.take 8, v0, v1, v2) [] (by simp; omega) (by simp) rfl (by simp [e8, l8])
    · simp at h
      refine pw_skip ?_
      exact at_mk (t, v0, v1, v2) [] (by simp; omega) (by simp) rfl (by simp)
  · rintro ⟨t, v0, v1, v2⟩ ht
    simp only at ht ⊢
    repeat refine pw_seq ?_
    refine pw_Y (some [nx, nx + 1, nx + 2]) (Row.pures [0, 1, 2, 3, 4, 5, 6, 7, 8, 9, 10] .done) mixed (by rfl) (by rfl) (by rfl) fun K Gp Gc Gh hK hGp hGc hGh X hX0 hX1 hX2 hX => ?_
    simp -implicitDefEqProofs [hX0, hX1, hX2, hX]
    try clear hX0 hX1 hX2 hX X
    refine hGp _ _ _ _ _ _ _ _ (mayP_ok _ t hc (by omega)) ?_
    clear hGp hGc hGh
    clear Gp Gc Gh
    refine px_go fun Gp Gc Gh hGp hGc hGh X hX0 hX1 hX2 hX => ?_
    simp -implicitDefEqProofs [hX0, hX1, hX2, hX]
    try clear hX0 hX1 hX2 hX X
    refine hGp _ _ _ _ _ _ _ _ (mayR_ok _ t hc (by omega)) ?_
    clear hGp hGc hGh
    clear Gp Gc Gh
    refine px_go fun Gp Gc Gh hGp hGc hGh X hX0 hX1 hX2 hX => ?_
    simp -implicitDefEqProofs [hX0, hX1, hX2, hX]
    try clear hX0 hX1 hX2 hX X
    refine hGp _ _ _ _ _ _ _ _ (lives_ok) ?_
    clear hGp hGc hGh
    clear Gp Gc Gh
    refine px_go fun Gp Gc Gh hGp hGc hGh X hX0 hX1 hX2 hX => ?_
    simp -implicitDefEqProofs [hX0, hX1, hX2, hX]
    try clear hX0 hX1 hX2 hX X
    refine hK _ _ _ ?_
    clear hK hGp hGc hGh
    clear K Gp Gc Gh
    repeat refine pw_seq ?_
    exact pw_ret (ret_pure hd rfl rfl)

end Go.Proofs.Yteijcpkckhdpgaa.Pv
