/- The laws TourRow and TourWider: what they compute. -/
import Derived.Test.YteijcpkckhdpgaaIm
namespace Go.Proofs.Yteijcpkckhdpgaa.Pv
open Go

set_option maxRecDepth 10000 in
theorem tourRow_ok (x : Inst) (l : List Stop) (cuts : List Bool) (hx : InstOk x) (hl : Lists l cuts) : Pure Try.prog 7 [.agg (instL x), L l, L cuts] (B true) := by
  have hc := goodI_cust' x
  have hc6 := goodI_cust x
  have hg := goods_of (n := (goodI x).cust.length) hl.2.1
  have hm := made_of cuts hg
  have htours := tours_ok (goodI x) l cuts hl.1 hl.2.2 hc hl.2.1 hg.len
  generalize toursOf cuts (goodL (goodI x).cust.length [] l) = d at *
  have hgi := goodI_ok x hx
  generalize goodI x = y at *
  have hd6 := hm.len
  have hmb := hm.perm (List.reverse_perm d)
  have f1 := costP_ok y d (hm.dayOk (by omega))
  have f2 := costP_ok y d.reverse (hmb.dayOk (by omega))
  have f3 := dayP_ok y d hc (by omega) (fun t ht => Nat.le_trans (hm.tlen ht) (by decide)) (Nat.le_trans hm.goods.len (by decide))
  have f4 := dayP_ok y d.reverse hc (by simp; omega) (fun t ht => Nat.le_trans (hmb.tlen ht) (by decide)) (Nat.le_trans hmb.goods.len (by decide))
  have f5 := stopsP_ok d (by omega) (Nat.le_trans hm.goods.len (by decide))
  have f6 := stopsP_ok d.reverse (by simp; omega) (Nat.le_trans hmb.goods.len (by decide))
  rw [costZ_perm (List.reverse_perm d)] at f2
  have e1 := dayT_perm (x := y) (List.reverse_perm d)
  have e2 : d.reverse.flatten.length = d.flatten.length := (List.reverse_perm d).flatten.length_eq
  generalize hbk : d.reverse = bk at *
  generalize bk.flatten = fb at *
  generalize d.flatten = fd at *
  have w0 : IntKind.i64.wrap ((d.length : Int) - 1) = (d.length : Int) - 1 := wr _ (by omega) (by omega)
  refine pure_enter Try.func7 (by rfl) rfl Try.ntmps7 (congrArg Array.toList Try.results7) (by simp) fun S nx hd => ?_
  repeat refine pw_seq ?_
  refine pw_N [] (by rfl) (by rfl) fun K Gc Gh hK hGc hGh X hX0 hX => ?_
  simp -implicitDefEqProofs [hX0, hX]
  try clear hX0 hX X
  intro v0
  refine hK _ _ _ ?_
  clear hK hGc hGh
  clear K Gc Gh
  repeat refine pw_seq ?_
  refine pw_N [] (by rfl) (by rfl) fun K Gc Gh hK hGc hGh X hX0 hX => ?_
  simp -implicitDefEqProofs [hX0, hX]
  try clear hX0 hX X
  refine hGc _ _ _ _ _ _ _ fun hsuf => ((hgi _).mono ?_)
  rintro _ _ ⟨rfl, rfl⟩
  refine ⟨_, _, rfl, ?_⟩
  clear hGc hGh
  clear Gc Gh
  refine xs_go hsuf (D := []) (by rfl) fun Gc Gh hGc hGh X hX0 hX => ?_
  simp -implicitDefEqProofs [hX0, hX]
  try clear hX0 hX X
  intro v1
  intros
  refine hK _ _ _ ?_
  clear hK hGc hGh
  clear K Gc Gh
  repeat refine pw_seq ?_
  refine pw_N [] (by rfl) (by rfl) fun K Gc Gh hK hGc hGh X hX0 hX => ?_
  simp -implicitDefEqProofs [hX0, hX]
  try clear hX0 hX X
  refine hGc _ _ _ _ _ _ _ fun hsuf => ((htours _).mono ?_)
  rintro _ _ ⟨rfl, rfl⟩
  refine ⟨_, _, rfl, ?_⟩
  clear hGc hGh
  clear Gc Gh
  refine xs_go hsuf (D := []) (by rfl) fun Gc Gh hGc hGh X hX0 hX => ?_
  simp -implicitDefEqProofs [hX0, hX]
  try clear hX0 hX X
  intro v2
  intros
  refine hK _ _ _ ?_
  clear hK hGc hGh
  clear K Gc Gh
  repeat refine pw_seq ?_
  refine pw_N [] (by rfl) (by rfl) fun K Gc Gh hK hGc hGh X hX0 hX => ?_
  simp -implicitDefEqProofs [hX0, hX]
  try clear hX0 hX X
  intro v3
  refine hK _ _ _ ?_
  clear hK hGc hGh
  clear K Gc Gh
  refine pw_seq (pw_nilObX 3 0 28 1 rfl rfl fun v4 => ?_)
  repeat refine pw_seq ?_
  refine pw_N [] (by rfl) (by rfl) fun K Gc Gh hK hGc hGh X hX0 hX => ?_
  simp -implicitDefEqProofs [hX0, hX, w0]
  try clear hX0 hX X
  intros
  refine hK _ _ _ ?_
  clear hK hGc hGh
  clear K Gc Gh
  repeat refine pw_seq ?_
  refine pw_block (pw_loopL (fun s : Nat × Day × Nat × Nat × Nat × Nat × Nat => s.1 ≤ d.length ∧ s.2.1 = (d.drop s.1).reverse) (fun (m, out, v0, v1, v2, v3, v4) => [(7, .ptr (nx + 1) v1 0), (8, .ptr (nx + 2) v2 0), (9, .ptr (nx + 3) v3 0), (10, I ((m : Int) - 1))])
    (fun (m, out, v0, v1, v2, v3, v4) => [.cells v0 25 (instL x), .cells v1 25 (instL y), .cells v2 37 [L d], .cells v3 37 [.sl (nx + 4) v4 1 0 out.length], .cells v4 28 (out.flatMap Enc.enc)]) (fun s => s.1) (d.length, [], v0, v1, v2, v3, v4) [] (by simp) (by simp [w0]) (by simp) ?_)
  rintro ⟨m, out, v0, v1, v2, v3, v4⟩ ⟨hk, ho⟩
  simp only at hk ho ⊢
  repeat refine pw_seq ?_
  refine pw_N [] (by rfl) (by rfl) fun K Gc Gh hK hGc hGh X hX0 hX => ?_
  simp -implicitDefEqProofs [hX0, hX]
  try clear hX0 hX X
  intros
  refine hK _ _ _ ?_
  clear hK hGc hGh
  clear K Gc Gh
  repeat refine pw_seq ?_
  refine pw_cond rfl (fun hq => ?_) (fun hq => ?_)
  · simp at hq
    obtain ⟨j, rfl⟩ : ∃ j, m = j + 1 := ⟨m - 1, by omega⟩
    obtain ⟨t, tl, a1, a2, a3, e0⟩ := el1 rfl d j (by omega)
    have s1 : ((j : Int) + 1 - 1) = j := by omega
    have g1 : (j : Int) < d.length := by omega
    have w1 : IntKind.i64.wrap ((j : Int) - 1) = (j : Int) - 1 := wr _ (by omega) (by omega)
    have hol : out.length ≤ 6 := by rw [ho]; simp; omega
    refine pw_skip (pw_seq (pw_block ?_))
    repeat refine pw_seq ?_
    refine pw_Y (some [nx + 2]) (Row.pures [0, 2, 3, 4, 5, 6, 7] (.alt 1 (.alt 8 (Row.pures [9] (.alt 10 (.done) .stop)) .stop) .stop)) mixed (by rfl) (by rfl) (by rfl) fun K Gp Gc Gh hK hGp hGc hGh X hX0 hX1 hX2 hX => ?_
    simp -implicitDefEqProofs [hX0, hX1, hX2, hX, s1, g1, e0]
    try clear hX0 hX1 hX2 hX X
    refine ⟨by omega, ?_⟩
    refine hK _ _ _ ?_
    clear hK hGp hGc hGh
    clear K Gp Gc Gh
    repeat refine pw_seq ?_
    refine pw_N [] (by rfl) (by rfl) fun K Gc Gh hK hGc hGh X hX0 hX => ?_
    simp -implicitDefEqProofs [hX0, hX]
    try clear hX0 hX X
    intros
    refine hK _ _ _ ?_
    clear hK hGc hGh
    clear K Gc Gh
    exact again_mk (j, out ++ [t], v0, v1, v2, v3, v4 + 1) [] ⟨by simp only; omega, by simp only; rw [a2, ho]; simp⟩ (by simp) (by simp [s1, w1]) rfl (by simp)
  · simp at hq
    have hm0 : m = 0 := by omega
    subst hm0
    rw [List.drop_zero, hbk] at ho
    subst ho
    refine pw_exit ?_
    refine pw_frz 4 rfl ?_
    refine pw_drop [.cells v0 25 (instL x), .cells v1 25 (instL y), .cells v2 37 [L d], .cells v3 37 [L out]] [.dead] (by simp) ?_
    repeat refine pw_seq ?_
    refine pw_Y (some [nx + 1, nx + 2, nx + 3]) (Row.pures [0, 1, 2, 3, 4, 5, 6, 7, 8, 9, 10, 11, 12, 13, 14, 15, 16, 17, 18, 19, 20, 21, 22, 23, 24, 25, 26, 27, 28, 29, 30] .done) mixed (by rfl) (by rfl) (by rfl) fun K Gp Gc Gh hK hGp hGc hGh X hX0 hX1 hX2 hX => ?_
    simp -implicitDefEqProofs [hX0, hX1, hX2, hX]
    try clear hX0 hX1 hX2 hX X
    refine hGp _ _ _ _ _ _ _ _ (f1) ?_
    clear hGp hGc hGh
    clear Gp Gc Gh
    refine px_go fun Gp Gc Gh hGp hGc hGh X hX0 hX1 hX2 hX => ?_
    simp -implicitDefEqProofs [hX0, hX1, hX2, hX]
    try clear hX0 hX1 hX2 hX X
    refine hGp _ _ _ _ _ _ _ _ (f2) ?_
    clear hGp hGc hGh
    clear Gp Gc Gh
    refine px_go fun Gp Gc Gh hGp hGc hGh X hX0 hX1 hX2 hX => ?_
    simp -implicitDefEqProofs [hX0, hX1, hX2, hX]
    try clear hX0 hX1 hX2 hX X
    refine hGp _ _ _ _ _ _ _ _ (f3) ?_
    clear hGp hGc hGh
    clear Gp Gc Gh
    refine px_go fun Gp Gc Gh hGp hGc hGh X hX0 hX1 hX2 hX => ?_
    simp -implicitDefEqProofs [hX0, hX1, hX2, hX]
    try clear hX0 hX1 hX2 hX X
    refine hGp _ _ _ _ _ _ _ _ (f4) ?_
    clear hGp hGc hGh
    clear Gp Gc Gh
    refine px_go fun Gp Gc Gh hGp hGc hGh X hX0 hX1 hX2 hX => ?_
    simp -implicitDefEqProofs [hX0, hX1, hX2, hX, e1]
    try clear hX0 hX1 hX2 hX X
    refine hGp _ _ _ _ _ _ _ _ (f6) ?_
    clear hGp hGc hGh
    clear Gp Gc Gh
    refine px_go fun Gp Gc Gh hGp hGc hGh X hX0 hX1 hX2 hX => ?_
    simp -implicitDefEqProofs [hX0, hX1, hX2, hX]
    try clear hX0 hX1 hX2 hX X
    refine hGp _ _ _ _ _ _ _ _ (f5) ?_
    clear hGp hGc hGh
    clear Gp Gc Gh
    refine px_go fun Gp Gc Gh hGp hGc hGh X hX0 hX1 hX2 hX => ?_
    simp -implicitDefEqProofs [hX0, hX1, hX2, hX, e2]
    try clear hX0 hX1 hX2 hX X
    refine hGp _ _ _ _ _ _ _ _ (lives_ok) ?_
    clear hGp hGc hGh
    clear Gp Gc Gh
    refine px_go fun Gp Gc Gh hGp hGc hGh X hX0 hX1 hX2 hX => ?_
    simp -implicitDefEqProofs [hX0, hX1, hX2, hX]
    try clear hX0 hX1 hX2 hX X
    refine hK _ _ _ ?_
    clear hK hGp hGc hGh
    clear K Gp Gc Gh
    repeat refine pw_seq ?_
    exact pw_ret (ret_pure hd rfl rfl)

end Go.Proofs.Yteijcpkckhdpgaa.Pv
