/- tranterref03.Sorted: the same by putting one after another to its place. -/
import Derived.Test.YtpifkibgplnnkaaSr
import Derived.Test.YtpifkibgplnnkaaHj
namespace Go.Proofs.Ytpifkibgplnnkaa.Pv
open Go Hp

theorem refS_len (l : List Int) (k : Nat) : (refS l k).length = k := by rw [(refS_spec l k).1.length_eq]; simp

theorem flatU (l : List Int) : l.flatMap Enc.enc = l.map I := by induction l <;> simp_all
def idsX (r : Its Int) (k : Nat) : List PV := ((r.take k).map (·.1)).flatMap Enc.enc
theorem idsX_zero (r : Its Int) : idsX r 0 = [] := by simp [idsX]
theorem idsX_len (r : Its Int) (k : Nat) (h : k ≤ r.length) : (idsX r k).length = k := by rw [idsX, flatU]; simp; omega
theorem idsX_succ {r : Its Int} {k : Nat} {w : Int × Int} (h : r.take (k + 1) = r.take k ++ [w]) : idsX r (k + 1) = idsX r k ++ [I w.1] := by simp only [idsX, h]; simp

set_option maxRecDepth 20000 in
theorem sortedR_ok (l : List Int) (hn : l.length ≤ 1048576) : Pure Try.prog 11 [L l] (L (sortI l)) := by
  rw [sortI_ref]
  refine pure_enter Try.func11 (by rfl) rfl Try.ntmps11 (congrArg Array.toList Try.results11) (by simp) fun S nx hd => ?_
  repeat refine pw_seq ?_
  refine pw_N [] (by rfl) (by rfl) fun K Gc Gh hK hGc hGh X hX0 hX => ?_
  simp -implicitDefEqProofs [hX0, hX]
  try clear hX0 hX X
  intros
  refine hK _ _ _ ?_
  clear hK hGc hGh
  clear K Gc Gh
  repeat refine pw_seq ?_
  refine pw_N [] (by rfl) (by rfl) fun K Gc Gh hK hGc hGh X hX0 hX => ?_
  simp -implicitDefEqProofs [hX0, hX]
  try clear hX0 hX X
  intros
  refine hK _ _ _ ?_
  clear hK hGc hGh
  clear K Gc Gh
  refine pw_nil_lst 3 rfl ?_
  repeat refine pw_seq ?_
  refine pw_N [] (by rfl) (by rfl) fun K Gc Gh hK hGc hGh X hX0 hX => ?_
  simp -implicitDefEqProofs [hX0, hX]
  try clear hX0 hX X
  intros
  refine hK _ _ _ ?_
  clear hK hGc hGh
  clear K Gc Gh
  repeat refine pw_seq ?_
  refine pw_block (pw_loopL (fun s : Nat => s ≤ l.length) (fun k => [(0, L l), (3, L (refS l k)), (4, I k)]) (fun _ => []) (fun s => l.length - s) 0 [] (by simp) (by simp [refS]) (by simp) ?_)
  rintro k hk
  repeat refine pw_seq ?_
  refine pw_N [] (by rfl) (by rfl) fun K Gc Gh hK hGc hGh X hX0 hX => ?_
  simp -implicitDefEqProofs [hX0, hX]
  try clear hX0 hX X
  intros
  refine hK _ _ _ ?_
  clear hK hGc hGh
  clear K Gc Gh
  repeat refine pw_seq ?_
  refine pw_cond rfl (fun hc => ?_) (fun hc => ?_)
  · simp at hc
    obtain ⟨w, tl, a1, a2, a3, e0⟩ := el1 rfl l k hc
    refine pw_skip (pw_seq (pw_block ?_))
    repeat refine pw_seq ?_
    refine pw_N [] (by rfl) (by rfl) fun K Gc Gh hK hGc hGh X hX0 hX => ?_
    simp -implicitDefEqProofs [hX, hc, e0]
    try clear hX0 hX X
    refine hGc _ _ _ _ _ _ _ fun hsuf => ((putR_ok (refS l k) k w (by rw [refS_len]; omega) _).mono ?_).v
    rintro _ _ ⟨rfl, rfl⟩
    refine ⟨_, _, rfl, ?_⟩
    clear hGc hGh
    clear Gc Gh
    refine xs_go hsuf (D := []) (by rfl) fun Gc Gh hGc hGh X hX0 hX => ?_
    simp -implicitDefEqProofs [hX0, hX]
    try clear hX0 hX X
    intros
    refine hK _ _ _ ?_
    clear hK hGc hGh
    clear K Gc Gh
    repeat refine pw_seq ?_
    refine pw_N [] (by rfl) (by rfl) fun K Gc Gh hK hGc hGh X hX0 hX => ?_
    simp -implicitDefEqProofs [hX0, hX]
    try clear hX0 hX X
    intros
    refine hK _ _ _ ?_
    clear hK hGc hGh
    clear K Gc Gh
    exact again_mk (k + 1) [] hc (by omega) (by simp [wrN k (by omega), refS, a1]) rfl (by simp)
  · simp at hc
    obtain rfl : k = l.length := by omega
    refine pw_exit ?_
    have hrl := refS_len l l.length
    generalize refS l l.length = r at hrl ⊢
    repeat refine pw_seq ?_
    refine pw_N [] (by rfl) (by rfl) fun K Gc Gh hK hGc hGh X hX0 hX => ?_
    simp -implicitDefEqProofs [hX0, hX]
    try clear hX0 hX X
    intros
    refine hK _ _ _ ?_
    clear hK hGc hGh
    clear K Gc Gh
    refine pw_seq (pw_nilX 5 3 1 rfl fun v1 => ?_)
    repeat refine pw_seq ?_
    refine pw_N [] (by rfl) (by rfl) fun K Gc Gh hK hGc hGh X hX0 hX => ?_
    simp -implicitDefEqProofs [hX0, hX]
    try clear hX0 hX X
    intros
    refine hK _ _ _ ?_
    clear hK hGc hGh
    clear K Gc Gh
    repeat refine pw_seq ?_
    refine pw_block (pw_loopL (fun s : Nat × Nat => s.1 ≤ r.length) (fun (k, v) => [(3, L r), (5, .sl nx v 1 0 k), (6, I k)]) (fun (k, v) => [.cells v 3 (idsX r k)]) (fun s => r.length - s.1) (0, v1) [] (by simp) (by simp) (by simp [idsX_zero]) ?_)
    rintro ⟨k, v⟩ hk
    simp only at hk ⊢
    repeat refine pw_seq ?_
    refine pw_N [] (by rfl) (by rfl) fun K Gc Gh hK hGc hGh X hX0 hX => ?_
    simp -implicitDefEqProofs [hX0, hX]
    try clear hX0 hX X
    intros
    refine hK _ _ _ ?_
    clear hK hGc hGh
    clear K Gc Gh
    repeat refine pw_seq ?_
    refine pw_cond rfl (fun hc => ?_) (fun hc => ?_)
    · simp at hc
      obtain ⟨w, tl, a1, a2, a3, e1, e0⟩ := el 2 rfl r k hc
      refine pw_skip (pw_seq (pw_block ?_))
      have hl1 := idsX_len r k (by omega)
      have hl2 := idsX_succ a3
      have htk : (idsX r k).take k = idsX r k := List.take_of_length_le (by omega)
      repeat refine pw_seq ?_
      refine pw_N [] (by rfl) (by rfl) fun K Gc Gh hK hGc hGh X hX0 hX => ?_
      simp -implicitDefEqProofs [hX0, hX, hc, e0, hl1, htk]
      try clear hX0 hX X
      refine ⟨by omega, ?_⟩
      intros
      refine hK _ _ _ ?_
      clear hK hGc hGh
      clear K Gc Gh
      repeat refine pw_seq ?_
      refine pw_N [] (by rfl) (by rfl) fun K Gc Gh hK hGc hGh X hX0 hX => ?_
      simp -implicitDefEqProofs [hX0, hX]
      try clear hX0 hX X
      intros
      refine hK _ _ _ ?_
      clear hK hGc hGh
      clear K Gc Gh
      exact again_mk (k + 1, v + 1) [] hc (by simp; omega) (by simp [wrN k (by omega)]) rfl (by simp [hl2])
    · simp at hc
      obtain rfl : k = r.length := by omega
      refine pw_exit ?_
      have hl1 := idsX_len r r.length (Nat.le_refl _)
      refine pw_frz 0 rfl ?_
      repeat refine pw_seq ?_
      refine pw_N [] (by rfl) (by rfl) fun K Gc Gh hK hGc hGh X hX0 hX => ?_
      simp -implicitDefEqProofs [hX0, hX]
      try clear hX0 hX X
      intros
      refine hK _ _ _ ?_
      clear hK hGc hGh
      clear K Gc Gh
      repeat refine pw_seq ?_
      exact pw_ret (ret_pure hd (by simp; rfl) (by simp [oneOf, idsX, List.take_length]))

end Go.Proofs.Ytpifkibgplnnkaa.Pv
