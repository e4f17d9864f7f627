/- tranterref06.May; tranterref12.Day, Cost. -/
import Derived.Test.YtlkcdaeknioanaaGreatLf
namespace Go.Proofs.YtlkcdaeknioanaaGreat.Pv
open Go

set_option maxRecDepth 20000 in
theorem allR_ok (n : Nat) (hn : n < 2 ^ 64) : Pure Tryz.prog 83 [U n] (L (daysTo n 0 64)) := by
  have hl := bitsZ_len n
  refine pure_enter Tryz.func83 (by rfl) rfl Tryz.ntmps83 (congrArg Array.toList Tryz.results83) (by simp) fun S nx hd => ?_
  repeat refine pw_seq ?_
  refine pw_N [] (by rfl) (by rfl) fun K Gc Gh hK hGc hGh X hX0 hX => ?_
  simp -implicitDefEqProofs [hX0, hX]
  try clear hX0 hX X
  intros
  refine hK _ _ _ ?_
  clear hK hGc hGh
  clear K Gc Gh
  repeat refine pw_seq ?_
  refine pw_N [] (by rfl) (by rfl) fun K Gc Gh hK hGc hGh X hX0 hX => ?_
  simp -implicitDefEqProofs [hX0, hX]
  try clear hX0 hX X
  intros
  refine hK _ _ _ ?_
  clear hK hGc hGh
  clear K Gc Gh
  refine pw_seq (pw_nilX 3 3 1 rfl fun v1 => ?_)
  repeat refine pw_seq ?_
  refine pw_N [] (by rfl) (by rfl) fun K Gc Gh hK hGc hGh X hX0 hX => ?_
  simp -implicitDefEqProofs [hX]
  try clear hX0 hX X
  refine hGc _ _ _ _ _ _ _ fun hsuf => ((bits_ok n hn _).mono ?_).v
  rintro _ _ ⟨rfl, rfl⟩
  refine ⟨_, _, rfl, ?_⟩
  clear hGc hGh
  clear Gc Gh
  refine xs_go hsuf (D := []) (by rfl) fun Gc Gh hGc hGh X hX0 hX => ?_
  simp -implicitDefEqProofs [hX0, hX]
  try clear hX0 hX X
  intros
  refine hK _ _ _ ?_
  clear hK hGc hGh
  clear K Gc Gh
  repeat refine pw_seq ?_
  refine pw_N [] (by rfl) (by rfl) fun K Gc Gh hK hGc hGh X hX0 hX => ?_
  simp -implicitDefEqProofs [hX0, hX]
  try clear hX0 hX X
  intros
  refine hK _ _ _ ?_
  clear hK hGc hGh
  clear K Gc Gh
  repeat refine pw_seq ?_
  refine pw_block (pw_loopL (fun s : Nat × List Int × Nat => s.1 ≤ 64 ∧ s.2.1 = daysTo n 0 s.1) (fun (k, out, v1) => [(3, .sl nx v1 1 0 out.length), (4, L (bitsZ n)), (5, I k)]) (fun (k, out, v1) => [.cells v1 3 (out.flatMap Enc.enc)]) (fun s => 64 - s.1) (0, [], v1) [] (by simp [daysTo]) (by simp) (by simp) ?_)
  rintro ⟨k, out, v1⟩ ⟨hk, ho⟩
  simp only at hk ho ⊢
  have hol : out.length ≤ k := by rw [ho]; exact daysTo_len _ _ _
  have hs := daysTo_succ n 0 k (by omega)
  repeat refine pw_seq ?_
  refine pw_N [] (by rfl) (by rfl) fun K Gc Gh hK hGc hGh X hX0 hX => ?_
  simp -implicitDefEqProofs [hX0, hX]
  try clear hX0 hX X
  intros
  refine hK _ _ _ ?_
  clear hK hGc hGh
  clear K Gc Gh
  repeat refine pw_seq ?_
  refine pw_cond rfl (fun hc => ?_) (fun hc => ?_)
  · simp at hc
    have hc' : k < 64 := by omega
    obtain ⟨b, tl, a1, a2, a3, e0⟩ := el1 rfl (bitsZ n) k (by omega)
    rw [bit_at n k hc'] at a1; cases a1
    have g1 : (k : Int) < 64 := by omega
    refine pw_skip (pw_seq (pw_block ?_))
    repeat refine pw_seq ?_
    refine pw_N [] (by rfl) (by rfl) fun K Gc Gh hK hGc hGh X hX0 hX => ?_
    simp -implicitDefEqProofs [hX0, hX, e0, hl, g1]
    try clear hX0 hX X
    intros
    refine hK _ _ _ ?_
    clear hK hGc hGh
    clear K Gc Gh
    repeat refine pw_seq ?_
    refine pw_cond rfl (fun hb => ?_) (fun hb => ?_)
    · have hb' : bitN n k = 1 := by simp at hb; omega
      repeat refine pw_seq ?_
      refine pw_N [] (by rfl) (by rfl) fun K Gc Gh hK hGc hGh X hX0 hX => ?_
      simp -implicitDefEqProofs [hX0, hX]
      try clear hX0 hX X
      refine ⟨by omega, ?_⟩
      intros
      refine hK _ _ _ ?_
      clear hK hGc hGh
      clear K Gc Gh
      repeat refine pw_seq ?_
      refine pw_N [] (by rfl) (by rfl) fun K Gc Gh hK hGc hGh X hX0 hX => ?_
      simp -implicitDefEqProofs [hX0, hX]
      try clear hX0 hX X
      intros
      refine hK _ _ _ ?_
      clear hK hGc hGh
      clear K Gc Gh
      exact again_mk (k + 1, out ++ [(k : Int)], v1 + 1) [] ⟨by omega, by rw [hs, if_pos hb', ho]⟩ (by simp; omega) (by simp [wrN k (by omega)]) rfl (by simp)
    · have hb' : ¬ bitN n k = 1 := by simp at hb; omega
      refine pw_skip ?_
      repeat refine pw_seq ?_
      refine pw_N [] (by rfl) (by rfl) fun K Gc Gh hK hGc hGh X hX0 hX => ?_
      simp -implicitDefEqProofs [hX0, hX]
      try clear hX0 hX X
      intros
      refine hK _ _ _ ?_
      clear hK hGc hGh
      clear K Gc Gh
      exact again_mk (k + 1, out, v1) [] ⟨by omega, by rw [hs, if_neg hb', ho]; simp⟩ (by simp; omega) (by simp [wrN k (by omega)]) rfl (by simp)
  · simp at hc
    obtain rfl : k = 64 := by omega
    refine pw_exit ?_
    repeat refine pw_seq ?_
    refine pw_N [] (by rfl) (by rfl) fun K Gc Gh hK hGc hGh X hX0 hX => ?_
    simp -implicitDefEqProofs [hX0, hX]
    try clear hX0 hX X
    intros
    refine hK _ _ _ ?_
    clear hK hGc hGh
    clear K Gc Gh
    refine pw_frz 0 rfl ?_
    repeat refine pw_seq ?_
    exact pw_ret (ret_pure hd (by simp; rfl) (by simp [ho, oneOf]))

theorem daysTo_filter (n : Nat) (d : Int) : daysTo n d.toNat 64 = (daysTo n 0 64).filter fun x => decide (d ≤ x) := by
  simp only [daysTo, List.filter_map, List.filter_filter, Nat.zero_le, decide_true, Bool.true_and]
  congr 1
  apply List.filter_congr
  intro i _
  have : (d.toNat ≤ i) = (d ≤ (i : Int)) := propext ⟨fun h => by omega, fun h => by omega⟩
  simp only [Function.comp, this]

set_option maxRecDepth 20000 in
theorem nextR_ok (n : Nat) (d : Int) (hn : n < 2 ^ 64) : Pure Tryz.prog 62 [U n, I d] (I (nextD n d)) := by
  have hln := daysTo_len n 0 64
  have hnx : nextD n d = ((daysTo n 0 64).filter fun x => decide (d ≤ x)).headD (-1) := by rw [nextD, daysTo_filter]
  have hall := allR_ok n hn
  generalize daysTo n 0 64 = l at hln hnx hall
  refine pure_enter Tryz.func62 (by rfl) rfl Tryz.ntmps62 (congrArg Array.toList Tryz.results62) (by simp) fun S nx hd => ?_
  repeat refine pw_seq ?_
  refine pw_N [] (by rfl) (by rfl) fun K Gc Gh hK hGc hGh X hX0 hX => ?_
  simp -implicitDefEqProofs [hX0, hX]
  try clear hX0 hX X
  intros
  refine hK _ _ _ ?_
  clear hK hGc hGh
  clear K Gc Gh
  repeat refine pw_seq ?_
  refine pw_N [] (by rfl) (by rfl) fun K Gc Gh hK hGc hGh X hX0 hX => ?_
  simp -implicitDefEqProofs [hX]
  try clear hX0 hX X
  refine hGc _ _ _ _ _ _ _ fun hsuf => ((hall _).mono ?_).v
  rintro _ _ ⟨rfl, rfl⟩
  refine ⟨_, _, rfl, ?_⟩
  clear hGc hGh
  clear Gc Gh
  refine xs_go hsuf (D := []) (by rfl) fun Gc Gh hGc hGh X hX0 hX => ?_
  simp -implicitDefEqProofs [hX0, hX]
  try clear hX0 hX X
  intros
  refine hK _ _ _ ?_
  clear hK hGc hGh
  clear K Gc Gh
  repeat refine pw_seq ?_
  refine pw_N [] (by rfl) (by rfl) fun K Gc Gh hK hGc hGh X hX0 hX => ?_
  simp -implicitDefEqProofs [hX0, hX]
  try clear hX0 hX X
  intros
  refine hK _ _ _ ?_
  clear hK hGc hGh
  clear K Gc Gh
  repeat refine pw_seq ?_
  refine pw_block (pw_loopL (fun s : Nat => s ≤ l.length ∧ nextD n d = ((l.drop s).filter fun x => decide (d ≤ x)).headD (-1)) (fun k => [(1, I d), (5, L l), (6, I k)]) (fun _ => []) (fun s => l.length - s) 0 [] (by simp [hnx]) (by simp) (by simp) ?_)
  rintro k ⟨hk, ho⟩
  repeat refine pw_seq ?_
  refine pw_N [] (by rfl) (by rfl) fun K Gc Gh hK hGc hGh X hX0 hX => ?_
  simp -implicitDefEqProofs [hX0, hX]
  try clear hX0 hX X
  intros
  refine hK _ _ _ ?_
  clear hK hGc hGh
  clear K Gc Gh
  repeat refine pw_seq ?_
  refine pw_cond rfl (fun hc => ?_) (fun hc => ?_)
  · simp at hc
    obtain ⟨e, tl, a1, a2, a3, e0⟩ := el1 rfl l k hc
    rw [a2] at ho
    refine pw_skip (pw_seq (pw_block ?_))
    repeat refine pw_seq ?_
    refine pw_N [] (by rfl) (by rfl) fun K Gc Gh hK hGc hGh X hX0 hX => ?_
    simp -implicitDefEqProofs [hX0, hX, e0, hc]
    try clear hX0 hX X
    intros
    refine hK _ _ _ ?_
    clear hK hGc hGh
    clear K Gc Gh
    repeat refine pw_seq ?_
    refine pw_cond rfl (fun h => ?_) (fun h => ?_)
    · simp at h
      repeat refine pw_seq ?_
      refine pw_N [] (by rfl) (by rfl) fun K Gc Gh hK hGc hGh X hX0 hX => ?_
      simp -implicitDefEqProofs [hX0, hX, e0, hc]
      try clear hX0 hX X
      intros
      refine hK _ _ _ ?_
      clear hK hGc hGh
      clear K Gc Gh
      repeat refine pw_seq ?_
      exact pw_ret (ret_pure hd (by simp; rfl) (by rw [ho]; simp [h, oneOf]))
    · simp at h
      refine pw_skip ?_
      repeat refine pw_seq ?_
      refine pw_N [] (by rfl) (by rfl) fun K Gc Gh hK hGc hGh X hX0 hX => ?_
      simp -implicitDefEqProofs [hX0, hX]
      try clear hX0 hX X
      intros
      refine hK _ _ _ ?_
      clear hK hGc hGh
      clear K Gc Gh
      exact again_mk (k + 1) [] ⟨hc, by rw [ho]; simp [h]⟩ (by omega) (by simp [wrN k (by omega)]) rfl (by simp)
  · simp at hc
    obtain rfl : k = l.length := by omega
    rw [List.drop_length] at ho
    refine pw_exit ?_
    repeat refine pw_seq ?_
    refine pw_N [] (by rfl) (by rfl) fun K Gc Gh hK hGc hGh X hX0 hX => ?_
    simp -implicitDefEqProofs [hX0, hX]
    try clear hX0 hX X
    intros
    refine hK _ _ _ ?_
    clear hK hGc hGh
    clear K Gc Gh
    repeat refine pw_seq ?_
    exact pw_ret (ret_pure hd (by simp; rfl) (by rw [ho]; rfl))

theorem custMay1 (c : Cust) (d : Int) (h : c.kind = 1) : custMayB c d = (fromB c.demand 1 2147483648 && patB c d && tanklessB c) := by simp [custMayB, mustsL, h, Bool.and_assoc]
theorem custMay2 (c : Cust) (d : Int) (h : c.kind = 2) : custMayB c d = (fromB c.rate 0 2147483648 && fromB c.size 1 2147483648 && fromB c.start 0 c.size && ruledB c && fromB c.hold 0 1024 && patlessB c) := by simp [custMayB, mustsL, h, Bool.and_assoc]
theorem custMay0 (c : Cust) (d : Int) (h : ¬ c.kind = 1) (h2 : ¬ c.kind = 2) : custMayB c d = false := by simp [custMayB, mustsL, h, h2]

set_option maxRecDepth 20000 in
theorem customerR_ok (c : Cust) (d : Int) (hp : ∀ p ∈ c.pats, p < 2 ^ 64) (hl : c.pats.length ≤ 9223372036854775807) : Pure Tryz.prog 34 [.agg (custL c), I d] (B (custMayB c d)) := by
  refine pure_enter Tryz.func34 (by rfl) rfl Tryz.ntmps34 (congrArg Array.toList Tryz.results34) (by simp) fun S nx hd => ?_
  repeat refine pw_seq ?_
  refine pw_N [] (by rfl) (by rfl) fun K Gc Gh hK hGc hGh X hX0 hX => ?_
  simp -implicitDefEqProofs [hX0, hX]
  try clear hX0 hX X
  intro v0
  refine hK _ _ _ ?_
  clear hK hGc hGh
  clear K Gc Gh
  repeat refine pw_seq ?_
  refine pw_N [] (by rfl) (by rfl) fun K Gc Gh hK hGc hGh X hX0 hX => ?_
  simp -implicitDefEqProofs [hX0, hX]
  try clear hX0 hX X
  intros
  refine hK _ _ _ ?_
  clear hK hGc hGh
  clear K Gc Gh
  repeat refine pw_seq ?_
  refine pw_cond rfl (fun hk1 => ?_) (fun hk1 => ?_)
  · simp at hk1
    rw [custMay1 c d hk1]
    by_cases h1 : c.demand < 1
    · repeat refine pw_seq ?_
      refine pw_N [(3, 12), (8, 17), (14, 23), (20, 29), (25, 34), (30, 39), (35, 44), (40, 49)] (by rfl) (by rfl) fun K Gc Gh hK hGc hGh X hX0 hX => ?_
      simp -implicitDefEqProofs [hX0, hX, h1, undef]
      try clear hX0 hX X
      intros
      refine hK _ _ _ ?_
      clear hK hGc hGh
      clear K Gc Gh
      repeat refine pw_seq ?_
      refine pw_ct rfl ?_
      repeat refine pw_seq ?_
      refine pw_N [] (by rfl) (by rfl) fun K Gc Gh hK hGc hGh X hX0 hX => ?_
      simp -implicitDefEqProofs [hX0, hX]
      try clear hX0 hX X
      intros
      refine hK _ _ _ ?_
      clear hK hGc hGh
      clear K Gc Gh
      repeat refine pw_seq ?_
      exact pw_ret (ret_pure hd rfl (by simp only [fromB, show ¬ (1 ≤ c.demand ∧ c.demand ≤ 2147483648) by omega]; rfl))
    by_cases h2 : (2147483648 : Int) < c.demand
    · repeat refine pw_seq ?_
      refine pw_N [(3, 12), (8, 17), (14, 23), (20, 29), (25, 34), (30, 39), (35, 44), (40, 49)] (by rfl) (by rfl) fun K Gc Gh hK hGc hGh X hX0 hX => ?_
      simp -implicitDefEqProofs [hX0, hX, h2, h1, undef]
      try clear hX0 hX X
      intros
      refine hK _ _ _ ?_
      clear hK hGc hGh
      clear K Gc Gh
      repeat refine pw_seq ?_
      refine pw_ct rfl ?_
      repeat refine pw_seq ?_
      refine pw_N [] (by rfl) (by rfl) fun K Gc Gh hK hGc hGh X hX0 hX => ?_
      simp -implicitDefEqProofs [hX0, hX]
      try clear hX0 hX X
      intros
      refine hK _ _ _ ?_
      clear hK hGc hGh
      clear K Gc Gh
      repeat refine pw_seq ?_
      exact pw_ret (ret_pure hd rfl (by simp only [fromB, show ¬ (1 ≤ c.demand ∧ c.demand ≤ 2147483648) by omega]; rfl))
    by_cases h3 : c.pats = []
    · repeat refine pw_seq ?_
      refine pw_N [(3, 12), (8, 17), (14, 23), (20, 29), (25, 34), (30, 39), (35, 44), (40, 49)] (by rfl) (by rfl) fun K Gc Gh hK hGc hGh X hX0 hX => ?_
      simp -implicitDefEqProofs [hX0, hX, h3, h1, h2, undef]
      try clear hX0 hX X
      intros
      refine hK _ _ _ ?_
      clear hK hGc hGh
      clear K Gc Gh
      repeat refine pw_seq ?_
      refine pw_ct rfl ?_
      repeat refine pw_seq ?_
      refine pw_N [] (by rfl) (by rfl) fun K Gc Gh hK hGc hGh X hX0 hX => ?_
      simp -implicitDefEqProofs [hX0, hX]
      try clear hX0 hX X
      intros
      refine hK _ _ _ ?_
      clear hK hGc hGh
      clear K Gc Gh
      repeat refine pw_seq ?_
      exact pw_ret (ret_pure hd rfl (by simp [patB, h3, fromB, oneOf]))
    have h3' : ¬ (c.pats.length : Int) < 1 := by have := List.length_pos_iff.2 h3; omega
    by_cases h4 : (64 : Int) < (c.pats.length : Int)
    · repeat refine pw_seq ?_
      refine pw_N [(3, 12), (8, 17), (14, 23), (20, 29), (25, 34), (30, 39), (35, 44), (40, 49)] (by rfl) (by rfl) fun K Gc Gh hK hGc hGh X hX0 hX => ?_
      simp -implicitDefEqProofs [hX0, hX, h4, h1, h2, h3', undef]
      try clear hX0 hX X
      intros
      refine hK _ _ _ ?_
      clear hK hGc hGh
      clear K Gc Gh
      repeat refine pw_seq ?_
      refine pw_ct rfl ?_
      repeat refine pw_seq ?_
      refine pw_N [] (by rfl) (by rfl) fun K Gc Gh hK hGc hGh X hX0 hX => ?_
      simp -implicitDefEqProofs [hX0, hX]
      try clear hX0 hX X
      intros
      refine hK _ _ _ ?_
      clear hK hGc hGh
      clear K Gc Gh
      repeat refine pw_seq ?_
      exact pw_ret (ret_pure hd rfl (by simp [patB, fromB, oneOf, show ¬ ((c.pats.length : Int) ≤ 64) by omega]))
    by_cases h5 : c.rate = 0
    case neg =>
      repeat refine pw_seq ?_
      refine pw_N [(3, 12), (8, 17), (14, 23), (20, 29), (25, 34), (30, 39), (35, 44), (40, 49)] (by rfl) (by rfl) fun K Gc Gh hK hGc hGh X hX0 hX => ?_
      simp -implicitDefEqProofs [hX0, hX, h5, h1, h2, h3', h4, undef]
      try clear hX0 hX X
      intros
      refine hK _ _ _ ?_
      clear hK hGc hGh
      clear K Gc Gh
      repeat refine pw_seq ?_
      refine pw_ct rfl ?_
      repeat refine pw_seq ?_
      refine pw_N [] (by rfl) (by rfl) fun K Gc Gh hK hGc hGh X hX0 hX => ?_
      simp -implicitDefEqProofs [hX0, hX]
      try clear hX0 hX X
      intros
      refine hK _ _ _ ?_
      clear hK hGc hGh
      clear K Gc Gh
      repeat refine pw_seq ?_
      exact pw_ret (ret_pure hd rfl (by simp [tanklessB, h5, oneOf]))
    by_cases h6 : c.size = 0
    case neg =>
      repeat refine pw_seq ?_
      refine pw_N [(3, 12), (8, 17), (14, 23), (20, 29), (25, 34), (30, 39), (35, 44), (40, 49)] (by rfl) (by rfl) fun K Gc Gh hK hGc hGh X hX0 hX => ?_
      simp -implicitDefEqProofs [hX0, hX, h6, h1, h2, h3', h4, h5, undef]
      try clear hX0 hX X
      intros
      refine hK _ _ _ ?_
      clear hK hGc hGh
      clear K Gc Gh
      repeat refine pw_seq ?_
      refine pw_ct rfl ?_
      repeat refine pw_seq ?_
      refine pw_N [] (by rfl) (by rfl) fun K Gc Gh hK hGc hGh X hX0 hX => ?_
      simp -implicitDefEqProofs [hX0, hX]
      try clear hX0 hX X
      intros
      refine hK _ _ _ ?_
      clear hK hGc hGh
      clear K Gc Gh
      repeat refine pw_seq ?_
      exact pw_ret (ret_pure hd rfl (by simp [tanklessB, h6, oneOf]))
    by_cases h7 : c.start = 0
    case neg =>
      repeat refine pw_seq ?_
      refine pw_N [(3, 12), (8, 17), (14, 23), (20, 29), (25, 34), (30, 39), (35, 44), (40, 49)] (by rfl) (by rfl) fun K Gc Gh hK hGc hGh X hX0 hX => ?_
      simp -implicitDefEqProofs [hX0, hX, h7, h1, h2, h3', h4, h5, h6, undef]
      try clear hX0 hX X
      intros
      refine hK _ _ _ ?_
      clear hK hGc hGh
      clear K Gc Gh
      repeat refine pw_seq ?_
      refine pw_ct rfl ?_
      repeat refine pw_seq ?_
      refine pw_N [] (by rfl) (by rfl) fun K Gc Gh hK hGc hGh X hX0 hX => ?_
      simp -implicitDefEqProofs [hX0, hX]
      try clear hX0 hX X
      intros
      refine hK _ _ _ ?_
      clear hK hGc hGh
      clear K Gc Gh
      repeat refine pw_seq ?_
      exact pw_ret (ret_pure hd rfl (by simp [tanklessB, h7, oneOf]))
    by_cases h8 : c.rule = 0
    case neg =>
      repeat refine pw_seq ?_
      refine pw_N [(3, 12), (8, 17), (14, 23), (20, 29), (25, 34), (30, 39), (35, 44), (40, 49)] (by rfl) (by rfl) fun K Gc Gh hK hGc hGh X hX0 hX => ?_
      simp -implicitDefEqProofs [hX0, hX, h8, h1, h2, h3', h4, h5, h6, h7, undef]
      try clear hX0 hX X
      intros
      refine hK _ _ _ ?_
      clear hK hGc hGh
      clear K Gc Gh
      repeat refine pw_seq ?_
      refine pw_ct rfl ?_
      repeat refine pw_seq ?_
      refine pw_N [] (by rfl) (by rfl) fun K Gc Gh hK hGc hGh X hX0 hX => ?_
      simp -implicitDefEqProofs [hX0, hX]
      try clear hX0 hX X
      intros
      refine hK _ _ _ ?_
      clear hK hGc hGh
      clear K Gc Gh
      repeat refine pw_seq ?_
      exact pw_ret (ret_pure hd rfl (by simp [tanklessB, h8, oneOf]))
    by_cases h9 : c.hold = 0
    case neg =>
      repeat refine pw_seq ?_
      refine pw_N [(3, 12), (8, 17), (14, 23), (20, 29), (25, 34), (30, 39), (35, 44), (40, 49)] (by rfl) (by rfl) fun K Gc Gh hK hGc hGh X hX0 hX => ?_
      simp -implicitDefEqProofs [hX0, hX, h9, h1, h2, h3', h4, h5, h6, h7, h8]
      try clear hX0 hX X
      intros
      refine hK _ _ _ ?_
      clear hK hGc hGh
      clear K Gc Gh
      repeat refine pw_seq ?_
      refine pw_ct rfl ?_
      repeat refine pw_seq ?_
      refine pw_N [] (by rfl) (by rfl) fun K Gc Gh hK hGc hGh X hX0 hX => ?_
      simp -implicitDefEqProofs [hX0, hX]
      try clear hX0 hX X
      intros
      refine hK _ _ _ ?_
      clear hK hGc hGh
      clear K Gc Gh
      repeat refine pw_seq ?_
      exact pw_ret (ret_pure hd rfl (by simp [tanklessB, h9, oneOf]))
    repeat refine pw_seq ?_
    refine pw_N [(3, 12), (8, 17), (14, 23), (20, 29), (25, 34), (30, 39), (35, 44), (40, 49)] (by rfl) (by rfl) fun K Gc Gh hK hGc hGh X hX0 hX => ?_
    simp -implicitDefEqProofs [hX0, hX, h1, h2, h3', h4, h5, h6, h7, h8, h9]
    try clear hX0 hX X
    intros
    refine hK _ _ _ ?_
    clear hK hGc hGh
    clear K Gc Gh
    repeat refine pw_seq ?_
    refine pw_cf rfl ?_
    refine pw_skip ?_
    have hres : (fromB c.demand 1 2147483648 && patB c d && tanklessB c) = c.pats.all fun p => decide (nextD p d < 0) := by
      have e1 : fromB c.demand 1 2147483648 = true := by simp [fromB]; omega
      have e2 : fromB c.pats.length 1 64 = true := by simp [fromB]; omega
      have e3 : tanklessB c = true := by simp [tanklessB, h5, h6, h7, h8, h9]
      rw [e1, e3, patB, e2]; simp
    rw [hres]
    repeat refine pw_seq ?_
    refine pw_N [] (by rfl) (by rfl) fun K Gc Gh hK hGc hGh X hX0 hX => ?_
    simp -implicitDefEqProofs [hX0, hX]
    try clear hX0 hX X
    intros
    refine hK _ _ _ ?_
    clear hK hGc hGh
    clear K Gc Gh
    repeat refine pw_seq ?_
    refine pw_block (pw_loopL (fun s : Nat => s ≤ c.pats.length ∧ (c.pats.take s).all (fun p => decide (nextD p d < 0)) = true) (fun k => [(1, I d), (2, .ptr nx v0 0), (5, I k)]) (fun _ => [.cells v0 54 (custL c)]) (fun s => c.pats.length - s) 0 [] (by simp) (by simp) (by simp) ?_)
    rintro k ⟨hk, ho⟩
    repeat refine pw_seq ?_
    refine pw_N [] (by rfl) (by rfl) fun K Gc Gh hK hGc hGh X hX0 hX => ?_
    simp -implicitDefEqProofs [hX0, hX]
    try clear hX0 hX X
    intros
    refine hK _ _ _ ?_
    clear hK hGc hGh
    clear K Gc Gh
    repeat refine pw_seq ?_
    refine pw_cond rfl (fun hc => ?_) (fun hc => ?_)
    · simp at hc
      obtain ⟨p, tl, a1, a2, a3, e0⟩ := el1 rfl c.pats k hc
      have hpm := List.mem_of_getElem? a1
      refine pw_skip (pw_seq (pw_block ?_))
      repeat refine pw_seq ?_
      refine pw_N [] (by rfl) (by rfl) fun K Gc Gh hK hGc hGh X hX0 hX => ?_
      simp -implicitDefEqProofs [hX, e0, hc]
      try clear hX0 hX X
      refine hGc _ _ _ _ _ _ _ fun hsuf => ((nextR_ok p d (hp p hpm) _).mono ?_).v
      rintro _ _ ⟨rfl, rfl⟩
      refine ⟨_, _, rfl, ?_⟩
      clear hGc hGh
      clear Gc Gh
      refine xs_go hsuf (D := []) (by rfl) fun Gc Gh hGc hGh X hX0 hX => ?_
      simp -implicitDefEqProofs [hX0, hX]
      try clear hX0 hX X
      intros
      refine hK _ _ _ ?_
      clear hK hGc hGh
      clear K Gc Gh
      repeat refine pw_seq ?_
      refine pw_cond rfl (fun h => ?_) (fun h => ?_)
      · simp at h
        have hr2 : (c.pats.all fun p => decide (nextD p d < 0)) = false := by rw [List.all_eq_false]; exact ⟨p, hpm, by simp; omega⟩
        repeat refine pw_seq ?_
        refine pw_N [] (by rfl) (by rfl) fun K Gc Gh hK hGc hGh X hX0 hX => ?_
        simp -implicitDefEqProofs [hX0, hX]
        try clear hX0 hX X
        intros
        refine hK _ _ _ ?_
        clear hK hGc hGh
        clear K Gc Gh
        repeat refine pw_seq ?_
        exact pw_ret (ret_pure hd (by simp; rfl) (by simp only [hr2, oneOf]))
      · simp at h
        refine pw_skip ?_
        repeat refine pw_seq ?_
        refine pw_N [] (by rfl) (by rfl) fun K Gc Gh hK hGc hGh X hX0 hX => ?_
        simp -implicitDefEqProofs [hX0, hX]
        try clear hX0 hX X
        intros
        refine hK _ _ _ ?_
        clear hK hGc hGh
        clear K Gc Gh
        exact again_mk (k + 1) [] ⟨hc, by rw [a3, List.all_append, ho]; simp [h]⟩ (by omega) (by simp [wrN k (by omega)]) rfl (by simp)
    · simp at hc
      obtain rfl : k = c.pats.length := by omega
      rw [List.take_length] at ho
      refine pw_exit ?_
      repeat refine pw_seq ?_
      refine pw_N [] (by rfl) (by rfl) fun K Gc Gh hK hGc hGh X hX0 hX => ?_
      simp -implicitDefEqProofs [hX0, hX]
      try clear hX0 hX X
      intros
      refine hK _ _ _ ?_
      clear hK hGc hGh
      clear K Gc Gh
      repeat refine pw_seq ?_
      exact pw_ret (ret_pure hd (by simp; rfl) (by rw [ho]; rfl))
  · simp at hk1
    refine pw_skip ?_
    by_cases hk2 : c.kind = 2
    · rw [custMay2 c d hk2]
      by_cases h1 : 0 < c.pats.length
      · repeat refine pw_seq ?_
        refine pw_N [(3, 72), (9, 78)] (by rfl) (by rfl) fun K Gc Gh hK hGc hGh X hX0 hX => ?_
        simp -implicitDefEqProofs [hX0, hX, h1, hk2, undef]
        try clear hX0 hX X
        intros
        refine hK _ _ _ ?_
        clear hK hGc hGh
        clear K Gc Gh
        repeat refine pw_seq ?_
        refine pw_ct rfl ?_
        repeat refine pw_seq ?_
        refine pw_N [] (by rfl) (by rfl) fun K Gc Gh hK hGc hGh X hX0 hX => ?_
        simp -implicitDefEqProofs [hX0, hX]
        try clear hX0 hX X
        intros
        refine hK _ _ _ ?_
        clear hK hGc hGh
        clear K Gc Gh
        repeat refine pw_seq ?_
        exact pw_ret (ret_pure hd rfl (by simp [patlessB, List.ne_nil_of_length_pos h1, oneOf]))
      have h1' : c.pats = [] := List.eq_nil_of_length_eq_zero (by omega)
      by_cases h2 : c.demand = 0
      case neg =>
        repeat refine pw_seq ?_
        refine pw_N [(3, 72), (9, 78)] (by rfl) (by rfl) fun K Gc Gh hK hGc hGh X hX0 hX => ?_
        simp -implicitDefEqProofs [hX0, hX, h2, hk2, h1]
        try clear hX0 hX X
        intros
        refine hK _ _ _ ?_
        clear hK hGc hGh
        clear K Gc Gh
        repeat refine pw_seq ?_
        refine pw_ct rfl ?_
        repeat refine pw_seq ?_
        refine pw_N [] (by rfl) (by rfl) fun K Gc Gh hK hGc hGh X hX0 hX => ?_
        simp -implicitDefEqProofs [hX0, hX]
        try clear hX0 hX X
        intros
        refine hK _ _ _ ?_
        clear hK hGc hGh
        clear K Gc Gh
        repeat refine pw_seq ?_
        exact pw_ret (ret_pure hd rfl (by simp [patlessB, h2, oneOf]))
      repeat refine pw_seq ?_
      refine pw_N [(3, 72), (9, 78)] (by rfl) (by rfl) fun K Gc Gh hK hGc hGh X hX0 hX => ?_
      simp -implicitDefEqProofs [hX0, hX, hk2, h1, h2]
      try clear hX0 hX X
      intros
      refine hK _ _ _ ?_
      clear hK hGc hGh
      clear K Gc Gh
      repeat refine pw_seq ?_
      refine pw_cf rfl ?_
      refine pw_skip ?_
      by_cases h3 : c.rate < 0
      · repeat refine pw_seq ?_
        refine pw_N [(3, 86), (8, 91), (13, 96), (18, 101), (23, 106)] (by rfl) (by rfl) fun K Gc Gh hK hGc hGh X hX0 hX => ?_
        simp -implicitDefEqProofs [hX0, hX, h3, undef]
        try clear hX0 hX X
        intros
        refine hK _ _ _ ?_
        clear hK hGc hGh
        clear K Gc Gh
        repeat refine pw_seq ?_
        refine pw_ct rfl ?_
        repeat refine pw_seq ?_
        refine pw_N [] (by rfl) (by rfl) fun K Gc Gh hK hGc hGh X hX0 hX => ?_
        simp -implicitDefEqProofs [hX0, hX]
        try clear hX0 hX X
        intros
        refine hK _ _ _ ?_
        clear hK hGc hGh
        clear K Gc Gh
        repeat refine pw_seq ?_
        exact pw_ret (ret_pure hd rfl (by simp only [fromB, show ¬ (0 ≤ c.rate ∧ c.rate ≤ 2147483648) by omega]; rfl))
      by_cases h4 : (2147483648 : Int) < c.rate
      · repeat refine pw_seq ?_
        refine pw_N [(3, 86), (8, 91), (13, 96), (18, 101), (23, 106)] (by rfl) (by rfl) fun K Gc Gh hK hGc hGh X hX0 hX => ?_
        simp -implicitDefEqProofs [hX0, hX, h4, h3, undef]
        try clear hX0 hX X
        intros
        refine hK _ _ _ ?_
        clear hK hGc hGh
        clear K Gc Gh
        repeat refine pw_seq ?_
        refine pw_ct rfl ?_
        repeat refine pw_seq ?_
        refine pw_N [] (by rfl) (by rfl) fun K Gc Gh hK hGc hGh X hX0 hX => ?_
        simp -implicitDefEqProofs [hX0, hX]
        try clear hX0 hX X
        intros
        refine hK _ _ _ ?_
        clear hK hGc hGh
        clear K Gc Gh
        repeat refine pw_seq ?_
        exact pw_ret (ret_pure hd rfl (by simp only [fromB, show ¬ (0 ≤ c.rate ∧ c.rate ≤ 2147483648) by omega]; rfl))
      by_cases h5 : c.size < 1
      · repeat refine pw_seq ?_
        refine pw_N [(3, 86), (8, 91), (13, 96), (18, 101), (23, 106)] (by rfl) (by rfl) fun K Gc Gh hK hGc hGh X hX0 hX => ?_
        simp -implicitDefEqProofs [hX0, hX, h5, h3, h4, undef]
        try clear hX0 hX X
        intros
        refine hK _ _ _ ?_
        clear hK hGc hGh
        clear K Gc Gh
        repeat refine pw_seq ?_
        refine pw_ct rfl ?_
        repeat refine pw_seq ?_
        refine pw_N [] (by rfl) (by rfl) fun K Gc Gh hK hGc hGh X hX0 hX => ?_
        simp -implicitDefEqProofs [hX0, hX]
        try clear hX0 hX X
        intros
        refine hK _ _ _ ?_
        clear hK hGc hGh
        clear K Gc Gh
        repeat refine pw_seq ?_
        exact pw_ret (ret_pure hd rfl (by simp [fromB, oneOf, show ¬ 1 ≤ c.size by omega]))
      by_cases h6 : (2147483648 : Int) < c.size
      · repeat refine pw_seq ?_
        refine pw_N [(3, 86), (8, 91), (13, 96), (18, 101), (23, 106)] (by rfl) (by rfl) fun K Gc Gh hK hGc hGh X hX0 hX => ?_
        simp -implicitDefEqProofs [hX0, hX, h6, h3, h4, h5, undef]
        try clear hX0 hX X
        intros
        refine hK _ _ _ ?_
        clear hK hGc hGh
        clear K Gc Gh
        repeat refine pw_seq ?_
        refine pw_ct rfl ?_
        repeat refine pw_seq ?_
        refine pw_N [] (by rfl) (by rfl) fun K Gc Gh hK hGc hGh X hX0 hX => ?_
        simp -implicitDefEqProofs [hX0, hX]
        try clear hX0 hX X
        intros
        refine hK _ _ _ ?_
        clear hK hGc hGh
        clear K Gc Gh
        repeat refine pw_seq ?_
        exact pw_ret (ret_pure hd rfl (by simp [fromB, oneOf, show ¬ c.size ≤ 2147483648 by omega]))
      by_cases h7 : c.start < 0
      · repeat refine pw_seq ?_
        refine pw_N [(3, 86), (8, 91), (13, 96), (18, 101), (23, 106)] (by rfl) (by rfl) fun K Gc Gh hK hGc hGh X hX0 hX => ?_
        simp -implicitDefEqProofs [hX0, hX, h7, h3, h4, h5, h6, undef]
        try clear hX0 hX X
        intros
        refine hK _ _ _ ?_
        clear hK hGc hGh
        clear K Gc Gh
        repeat refine pw_seq ?_
        refine pw_ct rfl ?_
        repeat refine pw_seq ?_
        refine pw_N [] (by rfl) (by rfl) fun K Gc Gh hK hGc hGh X hX0 hX => ?_
        simp -implicitDefEqProofs [hX0, hX]
        try clear hX0 hX X
        intros
        refine hK _ _ _ ?_
        clear hK hGc hGh
        clear K Gc Gh
        repeat refine pw_seq ?_
        exact pw_ret (ret_pure hd rfl (by simp [fromB, oneOf, show ¬ 0 ≤ c.start by omega]))
      by_cases h8 : c.size < c.start
      · repeat refine pw_seq ?_
        refine pw_N [(3, 86), (8, 91), (13, 96), (18, 101), (23, 106)] (by rfl) (by rfl) fun K Gc Gh hK hGc hGh X hX0 hX => ?_
        simp -implicitDefEqProofs [hX0, hX, h8, h3, h4, h5, h6, h7]
        try clear hX0 hX X
        intros
        refine hK _ _ _ ?_
        clear hK hGc hGh
        clear K Gc Gh
        repeat refine pw_seq ?_
        refine pw_ct rfl ?_
        repeat refine pw_seq ?_
        refine pw_N [] (by rfl) (by rfl) fun K Gc Gh hK hGc hGh X hX0 hX => ?_
        simp -implicitDefEqProofs [hX0, hX]
        try clear hX0 hX X
        intros
        refine hK _ _ _ ?_
        clear hK hGc hGh
        clear K Gc Gh
        repeat refine pw_seq ?_
        exact pw_ret (ret_pure hd rfl (by simp [fromB, oneOf, show ¬ c.start ≤ c.size by omega]))
      repeat refine pw_seq ?_
      refine pw_N [(3, 86), (8, 91), (13, 96), (18, 101), (23, 106)] (by rfl) (by rfl) fun K Gc Gh hK hGc hGh X hX0 hX => ?_
      simp -implicitDefEqProofs [hX0, hX, h3, h4, h5, h6, h7, h8]
      try clear hX0 hX X
      intros
      refine hK _ _ _ ?_
      clear hK hGc hGh
      clear K Gc Gh
      repeat refine pw_seq ?_
      refine pw_cf rfl ?_
      refine pw_skip ?_
      have hres : (fromB c.rate 0 2147483648 && fromB c.size 1 2147483648 && fromB c.start 0 c.size && ruledB c && fromB c.hold 0 1024 && patlessB c) = (ruledB c && fromB c.hold 0 1024) := by
        have e1 : fromB c.rate 0 2147483648 = true := by simp [fromB]; omega
        have e2 : fromB c.size 1 2147483648 = true := by simp [fromB]; omega
        have e3 : fromB c.start 0 c.size = true := by simp [fromB]; omega
        have e4 : patlessB c = true := by simp [patlessB, h1', h2]
        rw [e1, e2, e3, e4]; simp
      rw [hres]
      by_cases r1 : c.rule = 1
      · by_cases r3 : 0 ≤ c.hold
        · repeat refine pw_seq ?_
          refine pw_N [(3, 116), (8, 121), (13, 126)] (by rfl) (by rfl) fun K Gc Gh hK hGc hGh X hX0 hX => ?_
          simp -implicitDefEqProofs [hX0, hX, r1, r3, undef]
          try clear hX0 hX X
          intros
          refine hK _ _ _ ?_
          clear hK hGc hGh
          clear K Gc Gh
          repeat refine pw_seq ?_
          exact pw_ret (ret_pure hd (by simp; rfl) (by simp [ruledB, r1, fromB, r3, oneOf]))
        · repeat refine pw_seq ?_
          refine pw_N [(3, 116), (8, 121), (13, 126)] (by rfl) (by rfl) fun K Gc Gh hK hGc hGh X hX0 hX => ?_
          simp -implicitDefEqProofs [hX0, hX, r1, r3, undef]
          try clear hX0 hX X
          intros
          refine hK _ _ _ ?_
          clear hK hGc hGh
          clear K Gc Gh
          repeat refine pw_seq ?_
          exact pw_ret (ret_pure hd (by simp; rfl) (by simp [ruledB, r1, fromB, r3, oneOf]))
      · by_cases r2 : c.rule = 2
        · by_cases r3 : 0 ≤ c.hold
          · repeat refine pw_seq ?_
            refine pw_N [(3, 116), (8, 121), (13, 126)] (by rfl) (by rfl) fun K Gc Gh hK hGc hGh X hX0 hX => ?_
            simp -implicitDefEqProofs [hX0, hX, r2, r3]
            try clear hX0 hX X
            intros
            refine hK _ _ _ ?_
            clear hK hGc hGh
            clear K Gc Gh
            repeat refine pw_seq ?_
            exact pw_ret (ret_pure hd (by simp; rfl) (by simp [ruledB, r2, fromB, r3, oneOf]))
          · repeat refine pw_seq ?_
            refine pw_N [(3, 116), (8, 121), (13, 126)] (by rfl) (by rfl) fun K Gc Gh hK hGc hGh X hX0 hX => ?_
            simp -implicitDefEqProofs [hX0, hX, r2, r3, undef]
            try clear hX0 hX X
            intros
            refine hK _ _ _ ?_
            clear hK hGc hGh
            clear K Gc Gh
            repeat refine pw_seq ?_
            exact pw_ret (ret_pure hd (by simp; rfl) (by simp [ruledB, r2, fromB, r3, oneOf]))
        · repeat refine pw_seq ?_
          refine pw_N [(3, 116), (8, 121), (13, 126)] (by rfl) (by rfl) fun K Gc Gh hK hGc hGh X hX0 hX => ?_
          simp -implicitDefEqProofs [hX0, hX, r1, r2, undef]
          try clear hX0 hX X
          intros
          refine hK _ _ _ ?_
          clear hK hGc hGh
          clear K Gc Gh
          repeat refine pw_seq ?_
          exact pw_ret (ret_pure hd (by simp; rfl) (by simp [ruledB, r1, r2, oneOf]))
    · rw [custMay0 c d hk1 hk2]
      have hk2' : (c.kind != 2) = true := by simpa using hk2
      repeat refine pw_seq ?_
      refine pw_N [(3, 72), (9, 78)] (by rfl) (by rfl) fun K Gc Gh hK hGc hGh X hX0 hX => ?_
      simp -implicitDefEqProofs [hX0, hX, hk2', undef]
      try clear hX0 hX X
      intros
      refine hK _ _ _ ?_
      clear hK hGc hGh
      clear K Gc Gh
      repeat refine pw_seq ?_
      refine pw_ct rfl ?_
      repeat refine pw_seq ?_
      refine pw_N [] (by rfl) (by rfl) fun K Gc Gh hK hGc hGh X hX0 hX => ?_
      simp -implicitDefEqProofs [hX0, hX]
      try clear hX0 hX X
      intros
      refine hK _ _ _ ?_
      clear hK hGc hGh
      clear K Gc Gh
      repeat refine pw_seq ?_
      exact pw_ret (ret_pure hd (by simp; rfl) rfl)

end Go.Proofs.YtlkcdaeknioanaaGreat.Pv
