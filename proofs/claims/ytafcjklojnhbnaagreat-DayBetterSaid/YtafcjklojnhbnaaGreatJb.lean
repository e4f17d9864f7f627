/- Good instances, made of any: customers. -/
import Derived.Test.YtafcjklojnhbnaaGreatJa
namespace Go.Proofs.YtafcjklojnhbnaaGreat.Pv
open Go

def rnd (n lo hi : Int) : Int := lo + (if n < 0 then -(n + 1) else n) % (hi - lo + 1)
theorem rnd_le (n lo hi : Int) (h : lo ≤ hi) : lo ≤ rnd n lo hi ∧ rnd n lo hi ≤ hi := by
  unfold rnd
  have a1 := Int.emod_nonneg (if n < 0 then -(n + 1) else n) (show hi - lo + 1 ≠ 0 by omega)
  have a2 := Int.emod_lt_of_pos (if n < 0 then -(n + 1) else n) (show 0 < hi - lo + 1 by omega)
  omega

set_option maxRecDepth 20000 in
theorem round_ok (n lo hi : Int) (hn : I64 n) (h0 : 0 ≤ lo) (h1 : lo ≤ hi) (h2 : hi ≤ 4294967296) : Pure Tryz.prog 28 [I n, I lo, I hi] (I (rnd n lo hi)) := by
  have hr := rnd_le n lo hi h1
  have w1 : IntKind.i64.wrap (hi - lo) = hi - lo := wr _ (by omega) (by omega)
  have w2 : IntKind.i64.wrap (hi - lo + 1) = hi - lo + 1 := wr _ (by omega) (by omega)
  have w0 : ¬ hi - lo + 1 = 0 := by omega
  have w3 : IntKind.i64.wrap (rnd n lo hi) = rnd n lo hi := wr _ (by omega) (by omega)
  unfold I64 at hn
  refine pure_enter Tryz.func28 (by rfl) rfl Tryz.ntmps28 (congrArg Array.toList Tryz.results28) (by simp) fun S nx hd => ?_
  repeat refine pw_seq ?_
  refine pw_N [] (by rfl) (by rfl) fun K Gc Gh hK hGc hGh X hX0 hX => ?_
  simp -implicitDefEqProofs [hX0, hX]
  try clear hX0 hX X
  intros
  refine hK _ _ _ ?_
  clear hK hGc hGh
  clear K Gc Gh
  repeat refine pw_seq ?_
  refine pw_N [] (by rfl) (by rfl) fun K Gc Gh hK hGc hGh X hX0 hX => ?_
  simp -implicitDefEqProofs [hX0, hX]
  try clear hX0 hX X
  intros
  refine hK _ _ _ ?_
  clear hK hGc hGh
  clear K Gc Gh
  by_cases h : n < 0
  · have w4 : IntKind.i64.wrap (n + 1) = n + 1 := wr _ (by omega) (by omega)
    have w5 : IntKind.i64.wrap (-(n + 1)) = -(n + 1) := wr _ (by omega) (by omega)
    have w6 : (-(n + 1)).tmod (hi - lo + 1) = (-(n + 1)) % (hi - lo + 1) := Int.tmod_eq_emod_of_nonneg (by omega)
    have w7 : lo + (-(n + 1)) % (hi - lo + 1) = rnd n lo hi := by unfold rnd; rw [if_pos h]
    refine pw_ct (by simp [h]) ?_
    have e : -(n + 1) = -1 + -n := by omega
    repeat refine pw_seq ?_
    refine pw_N [] (by rfl) (by rfl) fun K Gc Gh hK hGc hGh X hX0 hX => ?_
    simp -implicitDefEqProofs [hX0, hX, w4, w5]
    try clear hX0 hX X
    intros
    refine hK _ _ _ ?_
    clear hK hGc hGh
    clear K Gc Gh
    repeat refine pw_seq ?_
    refine pw_N [] (by rfl) (by rfl) fun K Gc Gh hK hGc hGh X hX0 hX => ?_
    simp -implicitDefEqProofs [hX0, hX, w1, w2, w0, w6, w7, w3]
    try clear hX0 hX X
    intros
    refine hK _ _ _ ?_
    clear hK hGc hGh
    clear K Gc Gh
    repeat refine pw_seq ?_
    exact pw_ret (ret_pure hd rfl rfl)
  · have w6 : n.tmod (hi - lo + 1) = n % (hi - lo + 1) := Int.tmod_eq_emod_of_nonneg (by omega)
    have w7 : lo + n % (hi - lo + 1) = rnd n lo hi := by unfold rnd; rw [if_neg h]
    refine pw_cf (by simp [h]) ?_
    refine pw_skip ?_
    repeat refine pw_seq ?_
    refine pw_N [] (by rfl) (by rfl) fun K Gc Gh hK hGc hGh X hX0 hX => ?_
    simp -implicitDefEqProofs [hX0, hX, w1, w2, w0, w6, w7, w3]
    try clear hX0 hX X
    intros
    refine hK _ _ _ ?_
    clear hK hGc hGh
    clear K Gc Gh
    repeat refine pw_seq ?_
    exact pw_ret (ret_pure hd rfl rfl)

end Go.Proofs.YtafcjklojnhbnaaGreat.Pv
