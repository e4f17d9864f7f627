/- The law TourApart: what it computes. -/
import Derived.Test.YteijcpkckhdpgaaIm
namespace Go.Proofs.Yteijcpkckhdpgaa.Pv
open Go

theorem way_one (x : Inst) (c : Int) : wayZ x [c] = arc x 0 (c + 1) + arc x (c + 1) 0 := by simp [wayZ, wayS]
theorem apart_snoc (l : List Stop) (s : Stop) : apartD (l ++ [s]) = apartD l ++ [[s]] := by simp [apartD]
theorem apart_len (l : List Stop) : (apartD l).length = l.length := by simp [apartD]

set_option maxRecDepth 10000 in
theorem tourApart_ok (x : Inst) (l : List Stop) (hx : InstOk x) (hl : Lists l []) : Pure Try.prog 5 [.agg (instL x), L l] (B true) := by
  have hc := goodI_cust' x
  have hc6 := goodI_cust x
  have hg := goods_of (n := (goodI x).cust.length) hl.2.1
  have hgood := goodS_ok (goodI x) l hl.1 hc hl.2.1
  generalize goodL (goodI x).cust.length [] l = g at *
  have hgi := goodI_ok x hx
  generalize goodI x = y at *
  have hg6 := hg.len
  have hsm : ∀ s ∈ g, small s.c := fun s hs => by have := hg.each s hs; unfold small; omega
  have hap := apartP_ok g (by omega)
  have hal := apart_len g
  have hcost := costP_ok y (apartD g) ⟨by omega, fun t ht => by simp [apartD] at ht; obtain ⟨s, _, rfl⟩ := ht; simp, fun t ht s hs => by simp [apartD] at ht; obtain ⟨s', h', rfl⟩ := ht; simp at hs; subst hs; exact hsm s h'⟩
  refine pure_enter Try.func5 (by rfl) rfl Try.ntmps5 (congrArg Array.toList Try.results5) (by simp) fun S nx hd => ?_
  repeat refine pw_seq ?_
  refine pw_N [] (by rfl) (by rfl) fun K Gc Gh hK hGc hGh X hX0 hX => ?_
  simp -implicitDefEqProofs [hX0, hX]
  try clear hX0 hX X
  intro v0
  refine hK _ _ _ ?_
  clear hK hGc hGh
  clear K Gc Gh
  repeat refine pw_seq ?_
  refine pw_N [] (by rfl) (by rfl) fun K Gc Gh hK hGc hGh X hX0 hX => ?_
  simp -implicitDefEqProofs [hX0, hX]
  try clear hX0 hX X
  refine hGc _ _ _ _ _ _ _ fun hsuf => ((hgi _).mono ?_)
  rintro _ _ ⟨rfl, rfl⟩
  refine ⟨_, _, rfl, ?_⟩
  clear hGc hGh
  clear Gc Gh
  refine xs_go hsuf (D := []) (by rfl) fun Gc Gh hGc hGh X hX0 hX => ?_
  simp -implicitDefEqProofs [hX0, hX]
  try clear hX0 hX X
  intro v1
  intros
  refine hK _ _ _ ?_
  clear hK hGc hGh
  clear K Gc Gh
  repeat refine pw_seq ?_
  refine pw_N [] (by rfl) (by rfl) fun K Gc Gh hK hGc hGh X hX0 hX => ?_
  simp -implicitDefEqProofs [hX0, hX]
  try clear hX0 hX X
  refine hGc _ _ _ _ _ _ _ fun hsuf => ((hgood _).mono ?_)
  rintro _ _ ⟨rfl, rfl⟩
  refine ⟨_, _, rfl, ?_⟩
  clear hGc hGh
  clear Gc Gh
  refine xs_go hsuf (D := []) (by rfl) fun Gc Gh hGc hGh X hX0 hX => ?_
  simp -implicitDefEqProofs [hX0, hX]
  try clear hX0 hX X
  intros
  refine hK _ _ _ ?_
  clear hK hGc hGh
  clear K Gc Gh
  repeat refine pw_seq ?_
  refine pw_N [] (by rfl) (by rfl) fun K Gc Gh hK hGc hGh X hX0 hX => ?_
  simp -implicitDefEqProofs [hX0, hX]
  try clear hX0 hX X
  refine hGc _ _ _ _ _ _ _ fun hsuf => ((hap _).mono ?_)
  rintro _ _ ⟨rfl, rfl⟩
  refine ⟨_, _, rfl, ?_⟩
  clear hGc hGh
  clear Gc Gh
  refine xs_go hsuf (D := []) (by rfl) fun Gc Gh hGc hGh X hX0 hX => ?_
  simp -implicitDefEqProofs [hX0, hX]
  try clear hX0 hX X
  intro v2
  intros
  refine hK _ _ _ ?_
  clear hK hGc hGh
  clear K Gc Gh
  repeat refine pw_seq ?_
  refine pw_N [] (by rfl) (by rfl) fun K Gc Gh hK hGc hGh X hX0 hX => ?_
  simp -implicitDefEqProofs [hX0, hX, hal]
  try clear hX0 hX X
  intros
  refine hK _ _ _ ?_
  clear hK hGc hGh
  clear K Gc Gh
  refine pw_cf (by simp [hal]) ?_
  refine pw_skip ?_
  repeat refine pw_seq ?_
  refine pw_N [] (by rfl) (by rfl) fun K Gc Gh hK hGc hGh X hX0 hX => ?_
  simp -implicitDefEqProofs [hX0, hX]
  try clear hX0 hX X
  intros
  refine hK _ _ _ ?_
  clear hK hGc hGh
  clear K Gc Gh
  repeat refine pw_seq ?_
  refine pw_N [] (by rfl) (by rfl) fun K Gc Gh hK hGc hGh X hX0 hX => ?_
  simp -implicitDefEqProofs [hX0, hX]
  try clear hX0 hX X
  intros
  refine hK _ _ _ ?_
  clear hK hGc hGh
  clear K Gc Gh
  repeat refine pw_seq ?_
  refine pw_block (pw_loopL (fun s : Nat × Nat × Nat × Nat => s.1 ≤ g.length) (fun (k, v0, v1, v2) => [(5, .ptr (nx + 1) v1 0), (6, L g), (7, .ptr (nx + 2) v2 0), (8, I (W (costZ y (apartD (g.take k))))), (9, I k)]) (fun (k, v0, v1, v2) => [.cells v0 25 (instL x), .cells v1 25 (instL y), .cells v2 37 [L (apartD g)]]) (fun s => g.length - s.1) (0, v0, v1, v2) [] (by simp) (by simp [apartD, costZ]) (by simp) ?_)
  rintro ⟨k, v0, v1, v2⟩ hk
  simp only at hk ⊢
  repeat refine pw_seq ?_
  refine pw_N [] (by rfl) (by rfl) fun K Gc Gh hK hGc hGh X hX0 hX => ?_
  simp -implicitDefEqProofs [hX0, hX]
  try clear hX0 hX X
  intros
  refine hK _ _ _ ?_
  clear hK hGc hGh
  clear K Gc Gh
  repeat refine pw_seq ?_
  refine pw_cond rfl (fun hq => ?_) (fun hq => ?_)
  · simp at hq
    obtain ⟨s, tl, a1, a2, a3, e1, e0⟩ := el 2 rfl g k hq
    obtain ⟨t, tl2, b1, b2, b3, e2⟩ := el1 rfl (apartD g) k (by omega)
    have ht : t = [s] := by
      have : (apartD g)[k]? = some [s] := by simp [apartD, a1]
      rw [b1] at this; cases this; rfl
    subst ht
    have hw := small_wr (hsm s (List.mem_of_getElem? a1))
    refine pw_skip (pw_seq (pw_block ?_))
    repeat refine pw_seq ?_
    refine pw_Y (some [nx + 2]) (Row.pures [0, 1, 2, 3, 4, 5, 6, 7, 8, 9, 10, 11, 12, 13, 14, 15, 16, 17, 18, 19, 20, 21, 22] .done) mixed (by rfl) (by rfl) (by rfl) fun K Gp Gc Gh hK hGp hGc hGh X hX0 hX1 hX2 hX => ?_
    simp -implicitDefEqProofs [hX0, hX1, hX2, hX, hq, hal, e0, e2]
    try clear hX0 hX1 hX2 hX X
    refine hK _ _ _ ?_
    clear hK hGp hGc hGh
    clear K Gp Gc Gh
    refine pw_cf (by simp) ?_
    refine pw_skip ?_
    repeat refine pw_seq ?_
    refine pw_Y (some [nx + 1]) (Row.pures [0, 1, 2, 3, 4, 5, 6, 7, 8, 9, 10, 11, 12, 13, 14, 15, 16, 17, 18, 19] .done) mixed (by rfl) (by rfl) (by rfl) fun K Gp Gc Gh hK hGp hGc hGh X hX0 hX1 hX2 hX => ?_
    simp -implicitDefEqProofs [hX0, hX1, hX2, hX, hq, e0, hw]
    try clear hX0 hX1 hX2 hX X
    refine hGp _ _ _ _ _ _ _ _ (arcR_ok _ _ _) ?_
    clear hGp hGc hGh
    clear Gp Gc Gh
    refine px_go fun Gp Gc Gh hGp hGc hGh X hX0 hX1 hX2 hX => ?_
    simp -implicitDefEqProofs [hX0, hX1, hX2, hX, hq, e0, hw]
    try clear hX0 hX1 hX2 hX X
    refine hGp _ _ _ _ _ _ _ _ (arcR_ok _ _ _) ?_
    clear hGp hGc hGh
    clear Gp Gc Gh
    refine px_go fun Gp Gc Gh hGp hGc hGh X hX0 hX1 hX2 hX => ?_
    simp -implicitDefEqProofs [hX0, hX1, hX2, hX]
    try clear hX0 hX1 hX2 hX X
    refine hK _ _ _ ?_
    clear hK hGp hGc hGh
    clear K Gp Gc Gh
    repeat refine pw_seq ?_
    refine pw_N [] (by rfl) (by rfl) fun K Gc Gh hK hGc hGh X hX0 hX => ?_
    simp -implicitDefEqProofs [hX0, hX]
    try clear hX0 hX X
    intros
    refine hK _ _ _ ?_
    clear hK hGc hGh
    clear K Gc Gh
    have hsum : IntKind.i64.wrap (IntKind.i64.wrap (W (costZ y (apartD (g.take k))) + arc y 0 (s.c + 1)) + arc y (s.c + 1) 0) = W (costZ y (apartD (g.take (k + 1)))) := by
      show W (W (W (costZ y (apartD (g.take k))) + arc y 0 (s.c + 1)) + arc y (s.c + 1) 0) = _
      rw [a3, apart_snoc, costZ_snoc, W_add, Int.add_assoc, W_add, List.map_cons, List.map_nil, way_one]
    exact again_mk (k + 1, v0, v1, v2) [] hq (by simp; omega) (by simp [wrN k (by omega), hsum]) rfl (by simp)
  · simp at hq
    have hk' : k = g.length := by omega
    subst hk'
    refine pw_exit ?_
    repeat refine pw_seq ?_
    refine pw_N [(5, 76)] (by rfl) (by rfl) fun K Gc Gh hK hGc hGh X hX0 hX => ?_
    simp -implicitDefEqProofs [hX0, hX]
    try clear hX0 hX X
    refine hGc _ _ _ _ _ _ _ fun hsuf => ((hcost _).mono ?_)
    rintro _ _ ⟨rfl, rfl⟩
    refine ⟨_, _, rfl, ?_⟩
    clear hGc hGh
    clear Gc Gh
    refine xs_go hsuf (D := [(5, 76)]) (by rfl) fun Gc Gh hGc hGh X hX0 hX => ?_
    simp -implicitDefEqProofs [hX0, hX]
    try clear hX0 hX X
    refine hGc _ _ _ _ _ _ _ fun hsuf => ((lives_ok _).mono ?_)
    rintro _ _ ⟨rfl, rfl⟩
    refine ⟨_, _, rfl, ?_⟩
    clear hGc hGh
    clear Gc Gh
    refine xs_go hsuf (D := [(5, 76)]) (by rfl) fun Gc Gh hGc hGh X hX0 hX => ?_
    simp -implicitDefEqProofs [hX0, hX]
    try clear hX0 hX X
    intros
    refine hK _ _ _ ?_
    clear hK hGc hGh
    clear K Gc Gh
    repeat refine pw_seq ?_
    exact pw_ret (ret_pure hd rfl (by simp))

end Go.Proofs.Yteijcpkckhdpgaa.Pv
