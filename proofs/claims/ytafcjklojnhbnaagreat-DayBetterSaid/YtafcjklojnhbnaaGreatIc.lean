/- A tour's parts, of the reference: customers, load; whether a number stands twice; whether two lists are the same. -/
import Derived.Test.YtafcjklojnhbnaaGreatIb
namespace Go.Proofs.YtafcjklojnhbnaaGreat.Pv
open Go

def loadZ (t : List Stop) : Int := (t.map (·.q)).sum
theorem loadZ_snoc (t : List Stop) (s : Stop) : loadZ (t ++ [s]) = loadZ t + s.q := by simp [loadZ]

set_option maxRecDepth 20000 in
theorem custR_ok (t : List Stop) (ht : t.length ≤ 1048576) : Pure Tryz.prog 42 [.agg [L t]] (L (t.map (·.c))) := by
  refine pure_enter Tryz.func42 (by rfl) rfl Tryz.ntmps42 (congrArg Array.toList Tryz.results42) (by simp) fun S nx hd => ?_
  repeat refine pw_seq ?_
  refine pw_N [] (by rfl) (by rfl) fun K Gc Gh hK hGc hGh X hX0 hX => ?_
  simp -implicitDefEqProofs [hX0, hX]
  try clear hX0 hX X
  intro v0
  refine hK _ _ _ ?_
  clear hK hGc hGh
  clear K Gc Gh
  repeat refine pw_seq ?_
  refine pw_N [] (by rfl) (by rfl) fun K Gc Gh hK hGc hGh X hX0 hX => ?_
  simp -implicitDefEqProofs [hX0, hX]
  try clear hX0 hX X
  intros
  refine hK _ _ _ ?_
  clear hK hGc hGh
  clear K Gc Gh
  refine pw_seq (pw_nilX 3 3 1 rfl fun v1 => ?_)
  repeat refine pw_seq ?_
  refine pw_N [] (by rfl) (by rfl) fun K Gc Gh hK hGc hGh X hX0 hX => ?_
  simp -implicitDefEqProofs [hX0, hX]
  try clear hX0 hX X
  intros
  refine hK _ _ _ ?_
  clear hK hGc hGh
  clear K Gc Gh
  repeat refine pw_seq ?_
  refine pw_block (pw_loopL (fun s : Nat × List Int × Nat × Nat => s.1 ≤ t.length ∧ s.2.1 = (t.take s.1).map (·.c)) (fun (k, out, v, v2) => [(1, .ptr nx v 0), (3, .sl (nx + 1) v2 1 0 out.length), (4, I k)]) (fun (k, out, v, v2) => [.cells v 66 [L t], .cells v2 3 (out.flatMap Enc.enc)]) (fun s => t.length - s.1) (0, [], v0, v1) [] (by simp) (by simp) (by simp) ?_)
  rintro ⟨k, out, v1, v2⟩ ⟨hk, ho⟩
  simp only at hk ho ⊢
  repeat refine pw_seq ?_
  refine pw_N [] (by rfl) (by rfl) fun K Gc Gh hK hGc hGh X hX0 hX => ?_
  simp -implicitDefEqProofs [hX0, hX]
  try clear hX0 hX X
  intros
  refine hK _ _ _ ?_
  clear hK hGc hGh
  clear K Gc Gh
  repeat refine pw_seq ?_
  refine pw_cond rfl (fun hc => ?_) (fun hc => ?_)
  · simp at hc
    obtain ⟨s, tl, a1, a2, a3, e1, e0⟩ := el 2 rfl t k hc
    refine pw_skip (pw_seq (pw_block ?_))
    repeat refine pw_seq ?_
    refine pw_N [] (by rfl) (by rfl) fun K Gc Gh hK hGc hGh X hX0 hX => ?_
    simp -implicitDefEqProofs [hX0, hX, hc, e0]
    try clear hX0 hX X
    have hl : out.length = k := by rw [ho]; simp; omega
    refine ⟨by omega, ?_⟩
    intros
    refine hK _ _ _ ?_
    clear hK hGc hGh
    clear K Gc Gh
    repeat refine pw_seq ?_
    refine pw_N [] (by rfl) (by rfl) fun K Gc Gh hK hGc hGh X hX0 hX => ?_
    simp -implicitDefEqProofs [hX0, hX]
    try clear hX0 hX X
    intros
    refine hK _ _ _ ?_
    clear hK hGc hGh
    clear K Gc Gh
    exact again_mk (k + 1, out ++ [s.c], v1, v2 + 1) [] (by simp [a3, ho]; omega) (by simp; omega) (by simp [wrN k (by omega)]) rfl (by simp)
  · simp at hc
    have hk' : k = t.length := by omega
    subst hk'
    refine pw_exit ?_
    repeat refine pw_seq ?_
    refine pw_N [] (by rfl) (by rfl) fun K Gc Gh hK hGc hGh X hX0 hX => ?_
    simp -implicitDefEqProofs [hX0, hX]
    try clear hX0 hX X
    intros
    refine hK _ _ _ ?_
    clear hK hGc hGh
    clear K Gc Gh
    refine pw_frz 1 rfl ?_
    repeat refine pw_seq ?_
    exact pw_ret (ret_pure hd rfl (by simp [ho]))

set_option maxRecDepth 20000 in
theorem loadR_ok (t : List Stop) (ht : t.length ≤ 1048576) : Pure Tryz.prog 55 [.agg [L t]] (I (W (loadZ t))) := by
  refine pure_enter Tryz.func55 (by rfl) rfl Tryz.ntmps55 (congrArg Array.toList Tryz.results55) (by simp) fun S nx hd => ?_
  repeat refine pw_seq ?_
  refine pw_N [] (by rfl) (by rfl) fun K Gc Gh hK hGc hGh X hX0 hX => ?_
  simp -implicitDefEqProofs [hX0, hX]
  try clear hX0 hX X
  intro v0
  refine hK _ _ _ ?_
  clear hK hGc hGh
  clear K Gc Gh
  repeat refine pw_seq ?_
  refine pw_N [] (by rfl) (by rfl) fun K Gc Gh hK hGc hGh X hX0 hX => ?_
  simp -implicitDefEqProofs [hX0, hX]
  try clear hX0 hX X
  intros
  refine hK _ _ _ ?_
  clear hK hGc hGh
  clear K Gc Gh
  repeat refine pw_seq ?_
  refine pw_N [] (by rfl) (by rfl) fun K Gc Gh hK hGc hGh X hX0 hX => ?_
  simp -implicitDefEqProofs [hX0, hX]
  try clear hX0 hX X
  intros
  refine hK _ _ _ ?_
  clear hK hGc hGh
  clear K Gc Gh
  repeat refine pw_seq ?_
  refine pw_block (pw_loopL (fun s : Nat × Nat => s.1 ≤ t.length) (fun (k, v) => [(1, .ptr nx v 0), (3, I (W (loadZ (t.take k)))), (4, I k)]) (fun (k, v) => [.cells v 66 [L t]]) (fun s => t.length - s.1) (0, v0) [] (by simp) (by simp [loadZ]) (by simp) ?_)
  rintro ⟨k, v1⟩ hk
  simp only at hk ⊢
  repeat refine pw_seq ?_
  refine pw_N [] (by rfl) (by rfl) fun K Gc Gh hK hGc hGh X hX0 hX => ?_
  simp -implicitDefEqProofs [hX0, hX]
  try clear hX0 hX X
  intros
  refine hK _ _ _ ?_
  clear hK hGc hGh
  clear K Gc Gh
  repeat refine pw_seq ?_
  refine pw_cond rfl (fun hc => ?_) (fun hc => ?_)
  · simp at hc
    obtain ⟨s, tl, a1, a2, a3, e1, e0⟩ := el 2 rfl t k hc
    refine pw_skip (pw_seq (pw_block ?_))
    repeat refine pw_seq ?_
    refine pw_N [] (by rfl) (by rfl) fun K Gc Gh hK hGc hGh X hX0 hX => ?_
    simp -implicitDefEqProofs [hX0, hX, hc, e1]
    try clear hX0 hX X
    intros
    refine hK _ _ _ ?_
    clear hK hGc hGh
    clear K Gc Gh
    repeat refine pw_seq ?_
    refine pw_N [] (by rfl) (by rfl) fun K Gc Gh hK hGc hGh X hX0 hX => ?_
    simp -implicitDefEqProofs [hX0, hX]
    try clear hX0 hX X
    intros
    refine hK _ _ _ ?_
    clear hK hGc hGh
    clear K Gc Gh
    exact again_mk (k + 1, v1) [] hc (by simp; omega) (by simp [wrN k (by omega), a3, loadZ_snoc, W_add]) rfl (by simp)
  · simp at hc
    have hk' : k = t.length := by omega
    subst hk'
    refine pw_exit ?_
    repeat refine pw_seq ?_
    refine pw_N [] (by rfl) (by rfl) fun K Gc Gh hK hGc hGh X hX0 hX => ?_
    simp -implicitDefEqProofs [hX0, hX]
    try clear hX0 hX X
    intros
    refine hK _ _ _ ?_
    clear hK hGc hGh
    clear K Gc Gh
    repeat refine pw_seq ?_
    exact pw_ret (ret_pure hd rfl (by simp))

theorem nodup_snoc (l : List Int) (c : Int) (h : l.Nodup) (hc : c ∉ l) : (l ++ [c]).Nodup := by
  rw [List.nodup_append]; exact ⟨h, by simp, fun a ha b hb e => by simp at hb; subst hb; subst e; exact hc ha⟩
theorem not_nodup_of {l : List Int} {i k : Nat} {c : Int} (hi : l[i]? = some c) (hk : l[k]? = some c) (h : k < i) : ¬ l.Nodup := by
  intro hn
  have := (List.getElem?_inj (List.getElem?_eq_some_iff.1 hi).1 hn).1 (hi.trans hk.symm)
  omega

set_option maxRecDepth 20000 in
theorem twice_ok (l : List Int) (hl : l.length ≤ 1048576) : Pure Tryz.prog 43 [L l] (B (decide (¬ l.Nodup))) := by
  refine pure_enter Tryz.func43 (by rfl) rfl Tryz.ntmps43 (congrArg Array.toList Tryz.results43) (by simp) fun S nx hd => ?_
  repeat refine pw_seq ?_
  refine pw_N [] (by rfl) (by rfl) fun K Gc Gh hK hGc hGh X hX0 hX => ?_
  simp -implicitDefEqProofs [hX0, hX]
  try clear hX0 hX X
  intros
  refine hK _ _ _ ?_
  clear hK hGc hGh
  clear K Gc Gh
  repeat refine pw_seq ?_
  refine pw_N [] (by rfl) (by rfl) fun K Gc Gh hK hGc hGh X hX0 hX => ?_
  simp -implicitDefEqProofs [hX0, hX]
  try clear hX0 hX X
  intros
  refine hK _ _ _ ?_
  clear hK hGc hGh
  clear K Gc Gh
  repeat refine pw_seq ?_
  refine pw_block (pw_loopL (fun i : Nat => i ≤ l.length ∧ (l.take i).Nodup) (fun i => [(0, L l), (3, I i)]) (fun _ => []) (fun i => l.length - i) 0 [] (by simp) (by simp) (by simp) ?_)
  rintro i ⟨hi, hn⟩
  repeat refine pw_seq ?_
  refine pw_N [] (by rfl) (by rfl) fun K Gc Gh hK hGc hGh X hX0 hX => ?_
  simp -implicitDefEqProofs [hX0, hX]
  try clear hX0 hX X
  intros
  refine hK _ _ _ ?_
  clear hK hGc hGh
  clear K Gc Gh
  repeat refine pw_seq ?_
  refine pw_cond rfl (fun hc => ?_) (fun hc => ?_)
  · simp at hc
    obtain ⟨c, tl, a1, a2, a3, e0⟩ := el1 rfl l i hc
    refine pw_skip (pw_seq (pw_block ?_))
    repeat refine pw_seq ?_
    refine pw_N [] (by rfl) (by rfl) fun K Gc Gh hK hGc hGh X hX0 hX => ?_
    simp -implicitDefEqProofs [hX0, hX]
    try clear hX0 hX X
    intros
    refine hK _ _ _ ?_
    clear hK hGc hGh
    clear K Gc Gh
    refine pw_block (pw_loopL (fun k : Nat => k ≤ i ∧ c ∉ l.take k) (fun k => [(0, L l), (3, I i), (4, I k)]) (fun _ => []) (fun k => i - k) 0 [] (by simp) (by simp) (by simp) ?_)
    rintro k ⟨hk, hkn⟩
    repeat refine pw_seq ?_
    refine pw_N [] (by rfl) (by rfl) fun K Gc Gh hK hGc hGh X hX0 hX => ?_
    simp -implicitDefEqProofs [hX0, hX]
    try clear hX0 hX X
    intros
    refine hK _ _ _ ?_
    clear hK hGc hGh
    clear K Gc Gh
    repeat refine pw_seq ?_
    refine pw_cond rfl (fun hc2 => ?_) (fun hc2 => ?_)
    · simp at hc2
      obtain ⟨c', tl', b1, b2, b3, e1⟩ := el1 rfl l k (by omega)
      have hkl : k < l.length := by omega
      refine pw_skip (pw_seq (pw_block ?_))
      repeat refine pw_seq ?_
      refine pw_Y none (Row.pures [0, 1, 2, 3, 4, 5, 6, 7, 8] .done) mixed (by rfl) (by rfl) (by rfl) fun K Gp Gc Gh hK hGp hGc hGh X hX0 hX1 hX2 hX => ?_
      simp -implicitDefEqProofs [hX0, hX2, e0, e1, hc, hkl]
      try clear hX0 hX1 hX2 hX X
      intros
      refine hK _ _ _ ?_
      clear hK hGp hGc hGh
      clear K Gp Gc Gh
      repeat refine pw_seq ?_
      refine pw_cond rfl (fun hq => ?_) (fun hq => ?_)
      · simp at hq
        subst hq
        repeat refine pw_seq ?_
        refine pw_N [] (by rfl) (by rfl) fun K Gc Gh hK hGc hGh X hX0 hX => ?_
        simp -implicitDefEqProofs [hX0, hX]
        try clear hX0 hX X
        intros
        refine hK _ _ _ ?_
        clear hK hGc hGh
        clear K Gc Gh
        repeat refine pw_seq ?_
        exact pw_ret (ret_pure hd rfl (by simp [not_nodup_of a1 b1 hc2]))
      · simp at hq
        refine pw_skip ?_
        repeat refine pw_seq ?_
        refine pw_N [] (by rfl) (by rfl) fun K Gc Gh hK hGc hGh X hX0 hX => ?_
        simp -implicitDefEqProofs [hX0, hX]
        try clear hX0 hX X
        intros
        refine hK _ _ _ ?_
        clear hK hGc hGh
        clear K Gc Gh
        exact again_mk (k + 1) [] ⟨hc2, by rw [b3]; simp [hkn, hq]⟩ (by omega) (by simp [wrN k (by omega)]) rfl (by simp)
    · simp at hc2
      have : k = i := by omega
      subst this
      refine pw_exit ?_
      repeat refine pw_seq ?_
      refine pw_N [] (by rfl) (by rfl) fun K Gc Gh hK hGc hGh X hX0 hX => ?_
      simp -implicitDefEqProofs [hX0, hX]
      try clear hX0 hX X
      intros
      refine hK _ _ _ ?_
      clear hK hGc hGh
      clear K Gc Gh
      exact again_mk (k + 1) [] ⟨hc, by rw [a3]; exact nodup_snoc _ _ hn hkn⟩ (by omega) (by simp [wrN k (by omega)]) rfl (by simp)
  · simp at hc
    refine pw_exit ?_
    repeat refine pw_seq ?_
    refine pw_N [] (by rfl) (by rfl) fun K Gc Gh hK hGc hGh X hX0 hX => ?_
    simp -implicitDefEqProofs [hX0, hX]
    try clear hX0 hX X
    intros
    refine hK _ _ _ ?_
    clear hK hGc hGh
    clear K Gc Gh
    rw [List.take_of_length_le hc] at hn
    repeat refine pw_seq ?_
    exact pw_ret (ret_pure hd rfl (by simp [hn]))

end Go.Proofs.YtafcjklojnhbnaaGreat.Pv
