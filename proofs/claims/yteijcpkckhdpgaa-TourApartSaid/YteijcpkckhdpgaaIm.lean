/- The laws TourParts, TourWider, TourRow: what they compute. -/
import Derived.Test.YteijcpkckhdpgaaIl
namespace Go.Proofs.Yteijcpkckhdpgaa.Pv
open Go

def Lists (l : List Stop) (cuts : List Bool) : Prop := l.length ≤ 9223372036854775807 ∧ (∀ s ∈ l, StopOk s) ∧ cuts.length ≤ 9223372036854775807

set_option maxRecDepth 10000 in
theorem tourParts_ok (x : Inst) (l : List Stop) (cuts : List Bool) (hx : InstOk x) (hl : Lists l cuts) : Pure Try.prog 4 [.agg (instL x), L l, L cuts] (B true) := by
  have hc := goodI_cust' x
  have hc6 := goodI_cust x
  have hg := goods_of (n := (goodI x).cust.length) hl.2.1
  have hm := made_of cuts hg
  have htours := tours_ok (goodI x) l cuts hl.1 hl.2.2 hc hl.2.1 hg.len
  generalize toursOf cuts (goodL (goodI x).cust.length [] l) = d at *
  have hd6 := hm.len
  refine pure_enter Try.func4 (by rfl) rfl Try.ntmps4 (congrArg Array.toList Try.results4) (by simp) fun S nx hd => ?_
  repeat refine pw_seq ?_
  refine pw_N [] (by rfl) (by rfl) fun K Gc Gh hK hGc hGh X hX0 hX => ?_
  simp -implicitDefEqProofs [hX0, hX]
  try clear hX0 hX X
  intro v0
  refine hK _ _ _ ?_
  clear hK hGc hGh
  clear K Gc Gh
  repeat refine pw_seq ?_
  refine pw_N [] (by rfl) (by rfl) fun K Gc Gh hK hGc hGh X hX0 hX => ?_
  simp -implicitDefEqProofs [hX0, hX]
  try clear hX0 hX X
  refine hGc _ _ _ _ _ _ _ fun hsuf => ((goodI_ok x hx _).mono ?_)
  rintro _ _ ⟨rfl, rfl⟩
  refine ⟨_, _, rfl, ?_⟩
  clear hGc hGh
  clear Gc Gh
  refine xs_go hsuf (D := []) (by rfl) fun Gc Gh hGc hGh X hX0 hX => ?_
  simp -implicitDefEqProofs [hX0, hX]
  try clear hX0 hX X
  intro v1
  intros
  refine hK _ _ _ ?_
  clear hK hGc hGh
  clear K Gc Gh
  repeat refine pw_seq ?_
  refine pw_N [] (by rfl) (by rfl) fun K Gc Gh hK hGc hGh X hX0 hX => ?_
  simp -implicitDefEqProofs [hX0, hX]
  try clear hX0 hX X
  refine hGc _ _ _ _ _ _ _ fun hsuf => ((htours _).mono ?_)
  rintro _ _ ⟨rfl, rfl⟩
  refine ⟨_, _, rfl, ?_⟩
  clear hGc hGh
  clear Gc Gh
  refine xs_go hsuf (D := []) (by rfl) fun Gc Gh hGc hGh X hX0 hX => ?_
  simp -implicitDefEqProofs [hX0, hX]
  try clear hX0 hX X
  intro v2
  intros
  refine hK _ _ _ ?_
  clear hK hGc hGh
  clear K Gc Gh
  repeat refine pw_seq ?_
  refine pw_N [] (by rfl) (by rfl) fun K Gc Gh hK hGc hGh X hX0 hX => ?_
  simp -implicitDefEqProofs [hX0, hX]
  try clear hX0 hX X
  intros
  refine hK _ _ _ ?_
  clear hK hGc hGh
  clear K Gc Gh
  repeat refine pw_seq ?_
  refine pw_block (pw_loopL (fun s : Nat × Nat × Nat × Nat => s.1 ≤ d.length) (fun (k, v0, v1, v2) => [(7, .ptr (nx + 1) v1 0), (8, .ptr (nx + 2) v2 0), (9, I k)]) (fun (k, v0, v1, v2) => [.cells v0 25 (instL x), .cells v1 25 (instL (goodI x)), .cells v2 37 [L d]]) (fun s => d.length - s.1) (0, v0, v1, v2) [] (by simp) (by simp) (by simp) ?_)
  rintro ⟨k, v0, v1, v2⟩ hk
  simp only at hk ⊢
  repeat refine pw_seq ?_
  refine pw_N [] (by rfl) (by rfl) fun K Gc Gh hK hGc hGh X hX0 hX => ?_
  simp -implicitDefEqProofs [hX0, hX]
  try clear hX0 hX X
  intros
  refine hK _ _ _ ?_
  clear hK hGc hGh
  clear K Gc Gh
  repeat refine pw_seq ?_
  refine pw_cond rfl (fun hq => ?_) (fun hq => ?_)
  · simp at hq
    obtain ⟨t, tl, a1, a2, a3, e0⟩ := el1 rfl d k hq
    have htd := List.mem_of_getElem? a1
    have ht6 := hm.tlen htd
    have hsm := hm.small (by omega) htd
    refine pw_skip (pw_seq (pw_block ?_))
    repeat refine pw_seq ?_
    refine pw_N [] (by rfl) (by rfl) fun K Gc Gh hK hGc hGh X hX0 hX => ?_
    simp -implicitDefEqProofs [hX0, hX, hq, e0]
    try clear hX0 hX X
    intro v3
    intros
    refine hK _ _ _ ?_
    clear hK hGc hGh
    clear K Gc Gh
    repeat refine pw_seq ?_
    refine pw_N [] (by rfl) (by rfl) fun K Gc Gh hK hGc hGh X hX0 hX => ?_
    simp -implicitDefEqProofs [hX0, hX]
    try clear hX0 hX X
    refine hGc _ _ _ _ _ _ _ fun hsuf => ((custR_ok t (by omega) _).mono ?_)
    rintro _ _ ⟨rfl, rfl⟩
    refine ⟨_, _, rfl, ?_⟩
    clear hGc hGh
    clear Gc Gh
    refine xs_go hsuf (D := []) (by rfl) fun Gc Gh hGc hGh X hX0 hX => ?_
    simp -implicitDefEqProofs [hX0, hX]
    try clear hX0 hX X
    intros
    refine hK _ _ _ ?_
    clear hK hGc hGh
    clear K Gc Gh
    repeat refine pw_seq ?_
    refine pw_Y (some [nx + 1, nx + 3]) (Row.pures [0, 1, 2, 3, 4, 5, 6, 7, 8, 9, 10, 11, 12, 13, 14, 15, 16, 17, 18, 19, 20] .done) mixed (by rfl) (by rfl) (by rfl) fun K Gp Gc Gh hK hGp hGc hGh X hX0 hX1 hX2 hX => ?_
    simp -implicitDefEqProofs [hX0, hX1, hX2, hX]
    try clear hX0 hX1 hX2 hX X
    refine hGp _ _ _ _ _ _ _ _ (custP_ok t (by omega)) ?_
    clear hGp hGc hGh
    clear Gp Gc Gh
    refine px_go fun Gp Gc Gh hGp hGc hGh X hX0 hX1 hX2 hX => ?_
    simp -implicitDefEqProofs [hX0, hX1, hX2, hX]
    try clear hX0 hX1 hX2 hX X
    refine hGp _ _ _ _ _ _ _ _ (same_ok _ _ (by simp; omega) (by simp; omega)) ?_
    clear hGp hGc hGh
    clear Gp Gc Gh
    refine px_go fun Gp Gc Gh hGp hGc hGh X hX0 hX1 hX2 hX => ?_
    simp -implicitDefEqProofs [hX0, hX1, hX2, hX]
    try clear hX0 hX1 hX2 hX X
    refine hGp _ _ _ _ _ _ _ _ (loadP_ok t (by omega)) ?_
    clear hGp hGc hGh
    clear Gp Gc Gh
    refine px_go fun Gp Gc Gh hGp hGc hGh X hX0 hX1 hX2 hX => ?_
    simp -implicitDefEqProofs [hX0, hX1, hX2, hX]
    try clear hX0 hX1 hX2 hX X
    refine hGp _ _ _ _ _ _ _ _ (loadR_ok t (by omega)) ?_
    clear hGp hGc hGh
    clear Gp Gc Gh
    refine px_go fun Gp Gc Gh hGp hGc hGh X hX0 hX1 hX2 hX => ?_
    simp -implicitDefEqProofs [hX0, hX1, hX2, hX]
    try clear hX0 hX1 hX2 hX X
    refine hGp _ _ _ _ _ _ _ _ (lengthP_ok _ t (by omega) hsm) ?_
    clear hGp hGc hGh
    clear Gp Gc Gh
    refine px_go fun Gp Gc Gh hGp hGc hGh X hX0 hX1 hX2 hX => ?_
    simp -implicitDefEqProofs [hX0, hX1, hX2, hX]
    try clear hX0 hX1 hX2 hX X
    refine hGp _ _ _ _ _ _ _ _ (wayR_ok _ _ (by simp; omega) (by simpa using hsm)) ?_
    clear hGp hGc hGh
    clear Gp Gc Gh
    refine px_go fun Gp Gc Gh hGp hGc hGh X hX0 hX1 hX2 hX => ?_
    simp -implicitDefEqProofs [hX0, hX1, hX2, hX]
    try clear hX0 hX1 hX2 hX X
    refine hK _ _ _ ?_
    clear hK hGp hGc hGh
    clear K Gp Gc Gh
    refine pw_cf (by simp) ?_
    refine pw_skip ?_
    repeat refine pw_seq ?_
    refine pw_N [] (by rfl) (by rfl) fun K Gc Gh hK hGc hGh X hX0 hX => ?_
    simp -implicitDefEqProofs [hX0, hX]
    try clear hX0 hX X
    intros
    refine hK _ _ _ ?_
    clear hK hGc hGh
    clear K Gc Gh
    exact again_mk (k + 1, v0, v1, v2) [_] hq (by simp; omega) (by simp [wrN k (by omega)]) rfl (by simp; rfl)
  · simp at hq
    refine pw_exit ?_
    repeat refine pw_seq ?_
    refine pw_N [] (by rfl) (by rfl) fun K Gc Gh hK hGc hGh X hX0 hX => ?_
    simp -implicitDefEqProofs [hX0, hX]
    try clear hX0 hX X
    refine hGc _ _ _ _ _ _ _ fun hsuf => ((lives_ok _).mono ?_)
    rintro _ _ ⟨rfl, rfl⟩
    refine ⟨_, _, rfl, ?_⟩
    clear hGc hGh
    clear Gc Gh
    refine xs_go hsuf (D := []) (by rfl) fun Gc Gh hGc hGh X hX0 hX => ?_
    simp -implicitDefEqProofs [hX0, hX]
    try clear hX0 hX X
    intros
    refine hK _ _ _ ?_
    clear hK hGc hGh
    clear K Gc Gh
    repeat refine pw_seq ?_
    exact pw_ret (ret_pure hd rfl rfl)

end Go.Proofs.Yteijcpkckhdpgaa.Pv
