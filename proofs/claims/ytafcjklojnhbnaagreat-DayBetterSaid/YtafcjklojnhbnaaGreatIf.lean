/- Whether no number stands twice, by sorting. -/
import Derived.Test.YtafcjklojnhbnaaGreatIe
import Derived.Test.YtafcjklojnhbnaaGreatSo
namespace Go.Proofs.YtafcjklojnhbnaaGreat.Pv
open Go

theorem sortZ_le (l : List Int) : (sortZ l).Pairwise (· ≤ ·) := by
  have := List.pairwise_mergeSort (le := fun x y : Int => decide (x ≤ y)) (fun a b c h1 h2 => by simp at *; omega) (fun a b => by simp; omega) l
  simpa using this
theorem sortZ_perm (l : List Int) : (sortZ l).Perm l := List.mergeSort_perm l _
theorem sortZ_nodup (l : List Int) : (sortZ l).Nodup ↔ l.Nodup := (sortZ_perm l).nodup_iff

theorem nodup_step {z : List Int} {j : Nat} {p c : Int} (hz : z.Pairwise (· ≤ ·)) (hn : (z.take (j + 1)).Nodup) (h1 : z.take (j + 1) = z.take j ++ [p]) (h2 : z.take (j + 1 + 1) = z.take (j + 1) ++ [c]) (hpc : p ≠ c) : (z.take (j + 1 + 1)).Nodup := by
  rw [h2]
  refine nodup_snoc _ _ hn fun hc => ?_
  have hs : (z.take (j + 1 + 1)).Pairwise (· ≤ ·) := hz.sublist (List.take_sublist _ _)
  rw [h2, h1, List.append_assoc, List.pairwise_append] at hs
  rw [h1, List.mem_append] at hc
  rcases hc with hc | hc
  · have a1 := hs.2.2 c hc p (by simp)
    have a2 := (List.pairwise_cons.1 hs.2.1).1 c (by simp)
    omega
  · simp at hc; exact hpc hc.symm

set_option maxRecDepth 10000 in
theorem unlike_ok {S : Store} {id ver : Nat} (zs : List Int) (hid : S id = .cells ver 3 (zs.flatMap Enc.enc)) (hn : zs.length ≤ 1048576) :
    Spec Tryz.prog 66 [.sl id ver 1 0 zs.length] S (fun p S' => p = B (decide zs.Nodup) ∧ S' = S.set id .dead) := by
  refine spec_enter Tryz.func66 (by rfl) rfl Tryz.ntmps66 (congrArg Array.toList Tryz.results66) (by simp) fun nx hd => ?_
  have hlt : id < nx := by
    rcases Nat.lt_or_ge id nx with h | h
    · exact h
    · rw [hd id h] at hid; cases hid
  repeat refine pw_seq ?_
  refine pw_N [] (by rfl) (by rfl) fun K Gc Gh hK hGc hGh X hX0 hX => ?_
  simp -implicitDefEqProofs [hX0, hX]
  try clear hX0 hX X
  intros
  refine hK _ _ _ ?_
  clear hK hGc hGh
  clear K Gc Gh
  repeat refine pw_seq ?_
  refine pw_N [] (by rfl) (by rfl) fun K Gc Gh hK hGc hGh X hX0 hX => ?_
  simp -implicitDefEqProofs [hX]
  try clear hX0 hX X
  refine hGc _ _ _ _ _ _ _ fun hsuf => ((sort_ok zs (by rw [ext_old hlt]; exact hid) hn).mono ?_).v
  rintro p _ rfl
  refine ⟨S.set id (.cells ver 3 ((sortZ zs).flatMap Enc.enc)), [], ext_set_old _ hlt, ?_⟩
  clear hGc hGh
  clear Gc Gh
  refine xs_go hsuf (D := []) (by rfl) fun Gc Gh hGc hGh X hX0 hX => ?_
  simp -implicitDefEqProofs [hX0]
  clear hX0 hX X
  intros
  refine hK _ _ _ ?_
  clear hK hGc hGh
  clear K Gc Gh
  generalize hz : sortZ zs = z
  have hzl : zs.length = z.length := by rw [← hz, sortZ_len]
  have hzs : z.Pairwise (· ≤ ·) := by rw [← hz]; exact sortZ_le zs
  have hfin : ∀ o, S.set id .dead o = ext (S.set id (.cells ver 3 (z.flatMap Enc.enc))) nx [] o ∨ S.set id .dead o = .dead := by
    intro o
    by_cases ho : o = id
    · subst ho; exact .inr (Store.set_same _ _ _)
    · rw [Store.set_other _ _ _ _ ho]
      by_cases h2 : o < nx
      · rw [ext_old h2, Store.set_other _ _ _ _ ho]; exact .inl rfl
      · exact .inr (hd o (by omega))
  have hS1 : (S.set id (.cells ver 3 (z.flatMap Enc.enc))) id = .cells ver 3 (z.flatMap Enc.enc) := Store.set_same _ _ _
  have hres : decide zs.Nodup = decide z.Nodup := by rw [← hz, decide_eq_decide, sortZ_nodup]
  rw [hres]
  have hzn : z.length ≤ 1048576 := by omega
  rw [hzl]
  generalize S.set id (.cells ver 3 (z.flatMap Enc.enc)) = S1 at *
  have hx1 := ext_old (S := S1) (obs := []) hlt
  repeat refine pw_seq ?_
  refine pw_N [] (by rfl) (by rfl) fun K Gc Gh hK hGc hGh X hX0 hX => ?_
  simp -implicitDefEqProofs [hX0, hX]
  try clear hX0 hX X
  intros
  refine hK _ _ _ ?_
  clear hK hGc hGh
  clear K Gc Gh
  repeat refine pw_seq ?_
  refine pw_block (pw_loopL (fun j : Nat => (j = 0 ∨ j + 1 ≤ z.length) ∧ (z.take (j + 1)).Nodup) (fun j => [(0, .sl id ver 1 0 z.length), (3, I ((j + 1 : Nat) : Int))]) (fun _ => []) (fun j => z.length - j) 0 [] (by cases z <;> simp) (by simp) (by simp) ?_)
  rintro j ⟨hj, hjn⟩
  repeat refine pw_seq ?_
  refine pw_N [] (by rfl) (by rfl) fun K Gc Gh hK hGc hGh X hX0 hX => ?_
  simp -implicitDefEqProofs [hX0, hX]
  try clear hX0 hX X
  intros
  refine hK _ _ _ ?_
  clear hK hGc hGh
  clear K Gc Gh
  repeat refine pw_seq ?_
  refine pw_cond rfl (fun hc => ?_) (fun hc => ?_)
  · simp at hc
    have hc' : j + 1 < z.length := by omega
    obtain ⟨c, tl1, b1, b2, b3, e1⟩ := el1 rfl z (j + 1) hc'
    obtain ⟨p, tl2, d1, d2, d3, e2⟩ := el1 rfl z j (by omega)
    have wj : IntKind.i64.wrap (j : Int) = j := wr _ (by omega) (by omega)
    have g1 : (j : Int) < z.length := by omega
    have g2 : (j : Int) + 1 < z.length := by omega
    have g3 : 0 ≤ (j : Int) + 1 := by omega
    refine pw_skip (pw_seq (pw_block ?_))
    repeat refine pw_seq ?_
    refine pw_Y none (Row.pures [0, 1, 2, 3, 4, 5, 6, 7, 8, 9] .done) mixed (by rfl) (by rfl) (by rfl) fun K Gp Gc Gh hK hGp hGc hGh X hX0 hX1 hX2 hX => ?_
    simp -implicitDefEqProofs [hX0, hX2, hx1, hS1, wj, e1, e2, g1, g2, g3]
    try clear hX0 hX1 hX2 hX X
    intros
    refine hK _ _ _ ?_
    clear hK hGp hGc hGh
    clear K Gp Gc Gh
    repeat refine pw_seq ?_
    refine pw_cond rfl (fun hq => ?_) (fun hq => ?_)
    · simp at hq
      repeat refine pw_seq ?_
      refine pw_N [] (by rfl) (by rfl) fun K Gc Gh hK hGc hGh X hX0 hX => ?_
      simp -implicitDefEqProofs [hX0, hX]
      try clear hX0 hX X
      intros
      refine hK _ _ _ ?_
      clear hK hGc hGh
      clear K Gc Gh
      exact pw_ret ⟨_, _, rfl, ⟨by simp; exact not_nodup_of b1 (by rw [d1, hq]) (by omega), rfl⟩, hfin⟩
    · simp at hq
      refine pw_skip ?_
      repeat refine pw_seq ?_
      refine pw_N [] (by rfl) (by rfl) fun K Gc Gh hK hGc hGh X hX0 hX => ?_
      simp -implicitDefEqProofs [hX0, hX]
      try clear hX0 hX X
      intros
      refine hK _ _ _ ?_
      clear hK hGc hGh
      clear K Gc Gh
      have w2 : IntKind.i64.wrap ((j : Int) + 1 + 1) = ((j + 1 + 1 : Nat) : Int) := by rw [wr _ (by omega) (by omega)]; omega
      exact again_mk (j + 1) [] ⟨by omega, nodup_step hzs hjn d3 b3 (fun e => hq e.symm)⟩ (by omega) (by simp [w2]) rfl (by simp)
  · simp at hc
    refine pw_exit ?_
    repeat refine pw_seq ?_
    refine pw_N [] (by rfl) (by rfl) fun K Gc Gh hK hGc hGh X hX0 hX => ?_
    simp -implicitDefEqProofs [hX0, hX]
    try clear hX0 hX X
    intros
    refine hK _ _ _ ?_
    clear hK hGc hGh
    clear K Gc Gh
    rw [List.take_of_length_le (by omega)] at hjn
    exact pw_ret ⟨_, _, rfl, ⟨by simp [hjn], rfl⟩, hfin⟩

end Go.Proofs.YtafcjklojnhbnaaGreat.Pv
