/- Sets of days: Has, among, Next (program and document). -/
import Derived.Test.YtlkcdaeknioanaaGreatLc
import Derived.Test.YtlkcdaeknioanaaGreatJa
import Derived.WalkSmall
namespace Go.Proofs.YtlkcdaeknioanaaGreat.Pv
open Go

theorem shr_bit (n d : Nat) : ((n : Int).fdiv (2 ^ d)) = ((n / 2 ^ d : Nat) : Int) := by
  have h : (2 : Int) ^ d = ((2 ^ d : Nat) : Int) := by simp
  rw [h, Int.fdiv_eq_ediv_of_nonneg _ (Int.natCast_nonneg _)]
  rfl

set_option maxRecDepth 20000 in
theorem hasP_ok (n : Nat) (d : Int) (hn : n < 2 ^ 64) : Pure Tryz.prog 132 [U n, I d] (B (decide (0 ≤ d ∧ d < 64 ∧ bitN n d.toNat = 1))) := by
  by_cases h : 0 ≤ d ∧ d < 64
  · have h1 : ¬ d < 0 := by omega
    have h2 : min d.toNat 64 = d.toNat := by omega
    have hlt : n / 2 ^ d.toNat ≤ n := Nat.div_le_self _ _
    have h3 := shr_bit n d.toNat
    have hb : bitN n d.toNat = n / 2 ^ d.toNat % 2 := rfl
    generalize n / 2 ^ d.toNat = m at hlt h3 hb
    have h4 := and_one_u64 (m : Int) (by omega) (by omega)
    have h5 : IntKind.u64.wrap (m : Int) = (m : Int) := by
      simp only [IntKind.wrap, IntKind.bits, IntKind.signed]
      simp
      omega
    have h6 : ((m : Int) % 2 = 1) = (bitN n d.toNat = 1) := by rw [hb]; exact propext ⟨fun q => by omega, fun q => by omega⟩
    refine pure_enter Tryz.func132 (by rfl) rfl Tryz.ntmps132 (congrArg Array.toList Tryz.results132) (by simp) fun S nx hd => ?_
    repeat refine pw_seq ?_
    refine pw_N [] (by rfl) (by rfl) fun K Gc Gh hK hGc hGh X hX0 hX => ?_
    simp -implicitDefEqProofs [hX0, hX]
    try clear hX0 hX X
    intros
    refine hK _ _ _ ?_
    clear hK hGc hGh
    clear K Gc Gh
    repeat refine pw_seq ?_
    refine pw_N [(2, 7)] (by rfl) (by rfl) fun K Gc Gh hK hGc hGh X hX0 hX => ?_
    simp -implicitDefEqProofs [hX]
    try clear hX0 hX X
    refine hGc _ _ _ _ _ _ _ fun hsuf => ((there_ok d _).mono ?_).v
    rintro _ _ ⟨rfl, rfl⟩
    refine ⟨_, _, rfl, ?_⟩
    clear hGc hGh
    clear Gc Gh
    refine xs_go hsuf (D := [(2, 7)]) (by rfl) fun Gc Gh hGc hGh X hX0 hX => ?_
    simp -implicitDefEqProofs [hX0, hX, h, h1, h2, h3, h4, IntKind.bits]
    try clear hX0 hX X
    intros
    refine hK _ _ _ ?_
    clear hK hGc hGh
    clear K Gc Gh
    repeat refine pw_seq ?_
    exact pw_ret (ret_pure hd (by simp; rfl) (by simp [h, oneOf, h6]))
  · refine pure_enter Tryz.func132 (by rfl) rfl Tryz.ntmps132 (congrArg Array.toList Tryz.results132) (by simp) fun S nx hd => ?_
    repeat refine pw_seq ?_
    refine pw_N [] (by rfl) (by rfl) fun K Gc Gh hK hGc hGh X hX0 hX => ?_
    simp -implicitDefEqProofs [hX0, hX]
    try clear hX0 hX X
    intros
    refine hK _ _ _ ?_
    clear hK hGc hGh
    clear K Gc Gh
    repeat refine pw_seq ?_
    refine pw_N [(2, 7)] (by rfl) (by rfl) fun K Gc Gh hK hGc hGh X hX0 hX => ?_
    simp -implicitDefEqProofs [hX]
    try clear hX0 hX X
    refine hGc _ _ _ _ _ _ _ fun hsuf => ((there_ok d _).mono ?_).v
    rintro _ _ ⟨rfl, rfl⟩
    refine ⟨_, _, rfl, ?_⟩
    clear hGc hGh
    clear Gc Gh
    refine xs_go hsuf (D := [(2, 7)]) (by rfl) fun Gc Gh hGc hGh X hX0 hX => ?_
    simp -implicitDefEqProofs [hX0, hX, h, undef]
    try clear hX0 hX X
    intros
    refine hK _ _ _ ?_
    clear hK hGc hGh
    clear K Gc Gh
    have h7 : ¬ (0 ≤ d ∧ d < 64 ∧ bitN n d.toNat = 1) := fun q => h ⟨q.1, q.2.1⟩
    repeat refine pw_seq ?_
    exact pw_ret (ret_pure hd (by simp; rfl) (by simp only [h7, oneOf, decide_false]))

/-- The days of a set from one on. -/
def daysF (n a : Nat) : List Int := ((List.range 64).filter fun i => decide (a ≤ i) && decide (bitN n i = 1)).map fun (i : Nat) => (i : Int)
def daysTo (n a k : Nat) : List Int := ((List.range k).filter fun i => decide (a ≤ i) && decide (bitN n i = 1)).map fun (i : Nat) => (i : Int)
theorem daysTo_len (n a k : Nat) : (daysTo n a k).length ≤ k := by
  simp only [daysTo, List.length_map]
  exact Nat.le_trans (List.length_filter_le _ _) (by simp)
theorem daysTo_succ (n a k : Nat) (h : a ≤ k) : daysTo n a (k + 1) = daysTo n a k ++ (if bitN n k = 1 then [(k : Int)] else []) := by
  simp only [daysTo, List.range_succ, List.filter_append, List.map_append]
  by_cases q : bitN n k = 1 <;> simp [q, h]
theorem daysTo_low (n a k : Nat) (h : k ≤ a) : daysTo n a k = [] := by
  simp only [daysTo, List.map_eq_nil_iff, List.filter_eq_nil_iff, List.mem_range]
  intro i hi; simp; omega

set_option maxRecDepth 20000 in
theorem among_ok (n : Nat) (d : Int) (hn : n < 2 ^ 64) (hdl : d ≤ 1000) : Pure Tryz.prog 131 [.fn (.func 132) [U n] [], I d] (L (daysTo n d.toNat 64)) := by
  have hmax : maxI d 0 = ((d.toNat : Nat) : Int) := by unfold maxI; split <;> omega
  have h64 : daysTo n d.toNat (max d.toNat 64) = daysTo n d.toNat 64 := by
    by_cases q : d.toNat ≤ 64
    · rw [Nat.max_eq_right q]
    · rw [Nat.max_eq_left (by omega), daysTo_low _ _ _ (Nat.le_refl _), daysTo_low _ _ _ (by omega)]
  have ha : d.toNat ≤ 1000 := by omega
  have main : ∀ a : Nat, a ≤ 1000 → daysTo n a (max a 64) = daysTo n d.toNat 64 → maxI d 0 = (a : Int) → Pure Tryz.prog 131 [.fn (.func 132) [U n] [], I d] (L (daysTo n d.toNat 64)) := by
    intro a ha h64 hmax
    refine pure_enter Tryz.func131 (by rfl) rfl Tryz.ntmps131 (congrArg Array.toList Tryz.results131) (by simp) fun S nx hd => ?_
    repeat refine pw_seq ?_
    refine pw_N [] (by rfl) (by rfl) fun K Gc Gh hK hGc hGh X hX0 hX => ?_
    simp -implicitDefEqProofs [hX0, hX]
    try clear hX0 hX X
    intros
    refine hK _ _ _ ?_
    clear hK hGc hGh
    clear K Gc Gh
    repeat refine pw_seq ?_
    refine pw_N [] (by rfl) (by rfl) fun K Gc Gh hK hGc hGh X hX0 hX => ?_
    simp -implicitDefEqProofs [hX0, hX]
    try clear hX0 hX X
    intros
    refine hK _ _ _ ?_
    clear hK hGc hGh
    clear K Gc Gh
    refine pw_seq (pw_nilX 5 3 1 rfl fun v1 => ?_)
    repeat refine pw_seq ?_
    refine pw_N [] (by rfl) (by rfl) fun K Gc Gh hK hGc hGh X hX0 hX => ?_
    simp -implicitDefEqProofs [hX0, hX, hmax]
    try clear hX0 hX X
    intros
    refine hK _ _ _ ?_
    clear hK hGc hGh
    clear K Gc Gh
    repeat refine pw_seq ?_
    refine pw_block (pw_loopL (fun s : Nat × List Int × Nat => a ≤ s.1 ∧ s.1 ≤ max a 64 ∧ s.2.1 = daysTo n a s.1) (fun (k, out, v1) => [(0, .fn (.func 132) [U n] []), (5, .sl nx v1 1 0 out.length), (6, I k)]) (fun (k, out, v1) => [.cells v1 3 (out.flatMap Enc.enc)]) (fun s => max a 64 - s.1) (a, [], v1) [] (by simp [daysTo_low]; omega) (by simp) (by simp) ?_)
    rintro ⟨k, out, v1⟩ ⟨hk0, hk, ho⟩
    simp only at hk0 hk ho ⊢
    have hol : out.length ≤ k := by rw [ho]; exact daysTo_len _ _ _
    repeat refine pw_seq ?_
    refine pw_N [] (by rfl) (by rfl) fun K Gc Gh hK hGc hGh X hX0 hX => ?_
    simp -implicitDefEqProofs [hX0, hX]
    try clear hX0 hX X
    intros
    refine hK _ _ _ ?_
    clear hK hGc hGh
    clear K Gc Gh
    repeat refine pw_seq ?_
    refine pw_cond rfl (fun hc => ?_) (fun hc => ?_)
    · simp at hc
      have hc' : k < 64 := by omega
      refine pw_skip (pw_seq (pw_block ?_))
      repeat refine pw_seq ?_
      refine pw_N [] (by rfl) (by rfl) fun K Gc Gh hK hGc hGh X hX0 hX => ?_
      simp -implicitDefEqProofs [hX]
      try clear hX0 hX X
      refine hGc _ _ _ _ _ _ _ fun hsuf => ((hasP_ok n k hn _).mono ?_).v
      rintro _ _ ⟨rfl, rfl⟩
      refine ⟨_, _, rfl, ?_⟩
      clear hGc hGh
      clear Gc Gh
      refine xs_go hsuf (D := []) (by rfl) fun Gc Gh hGc hGh X hX0 hX => ?_
      simp -implicitDefEqProofs [hX0]
      try clear hX0 hX X
      intros
      refine hK _ _ _ ?_
      clear hK hGc hGh
      clear K Gc Gh
      have hs := daysTo_succ n a k hk0
      repeat refine pw_seq ?_
      refine pw_cond rfl (fun hb => ?_) (fun hb => ?_)
      · simp at hb
        repeat refine pw_seq ?_
        refine pw_N [] (by rfl) (by rfl) fun K Gc Gh hK hGc hGh X hX0 hX => ?_
        simp -implicitDefEqProofs [hX0, hX]
        try clear hX0 hX X
        refine ⟨by omega, ?_⟩
        intros
        refine hK _ _ _ ?_
        clear hK hGc hGh
        clear K Gc Gh
        repeat refine pw_seq ?_
        refine pw_N [] (by rfl) (by rfl) fun K Gc Gh hK hGc hGh X hX0 hX => ?_
        simp -implicitDefEqProofs [hX0, hX]
        try clear hX0 hX X
        intros
        refine hK _ _ _ ?_
        clear hK hGc hGh
        clear K Gc Gh
        exact again_mk (k + 1, out ++ [(k : Int)], v1 + 1) [] ⟨by omega, by omega, by rw [hs, if_pos hb.2, ho]⟩ (by simp; omega) (by simp [wrN k (by omega)]) rfl (by simp)
      · have hb' : ¬ bitN n k = 1 := by simp at hb; exact hb (by omega)
        refine pw_skip ?_
        repeat refine pw_seq ?_
        refine pw_N [] (by rfl) (by rfl) fun K Gc Gh hK hGc hGh X hX0 hX => ?_
        simp -implicitDefEqProofs [hX0, hX]
        try clear hX0 hX X
        intros
        refine hK _ _ _ ?_
        clear hK hGc hGh
        clear K Gc Gh
        exact again_mk (k + 1, out, v1) [] ⟨by omega, by omega, by rw [hs, if_neg hb', ho]; simp⟩ (by simp; omega) (by simp [wrN k (by omega)]) rfl (by simp)
    · simp at hc
      obtain rfl : k = max a 64 := by omega
      refine pw_exit ?_
      repeat refine pw_seq ?_
      refine pw_N [] (by rfl) (by rfl) fun K Gc Gh hK hGc hGh X hX0 hX => ?_
      simp -implicitDefEqProofs [hX0, hX]
      try clear hX0 hX X
      intros
      refine hK _ _ _ ?_
      clear hK hGc hGh
      clear K Gc Gh
      refine pw_frz 0 rfl ?_
      repeat refine pw_seq ?_
      exact pw_ret (ret_pure hd (by simp; rfl) (by simp [ho, h64, oneOf]))
  exact main d.toNat ha h64 hmax

/-- The first day of a set from one on; -1: none. -/
def nextD (n : Nat) (d : Int) : Int := (daysTo n d.toNat 64).headD (-1)

set_option maxRecDepth 20000 in
theorem nextP_ok (n : Nat) (d : Int) (hn : n < 2 ^ 64) (hdl : d ≤ 1000) : Pure Tryz.prog 117 [U n, I d] (I (nextD n d)) := by
  have hlen := daysTo_len n d.toNat 64
  refine pure_enter Tryz.func117 (by rfl) rfl Tryz.ntmps117 (congrArg Array.toList Tryz.results117) (by simp) fun S nx hd => ?_
  repeat refine pw_seq ?_
  refine pw_N [] (by rfl) (by rfl) fun K Gc Gh hK hGc hGh X hX0 hX => ?_
  simp -implicitDefEqProofs [hX0, hX]
  try clear hX0 hX X
  intros
  refine hK _ _ _ ?_
  clear hK hGc hGh
  clear K Gc Gh
  repeat refine pw_seq ?_
  refine pw_N [] (by rfl) (by rfl) fun K Gc Gh hK hGc hGh X hX0 hX => ?_
  simp -implicitDefEqProofs [hX]
  try clear hX0 hX X
  refine hGc _ _ _ _ _ _ _ fun hsuf => ((among_ok n d hn hdl _).mono ?_).v
  rintro _ _ ⟨rfl, rfl⟩
  refine ⟨_, _, rfl, ?_⟩
  clear hGc hGh
  clear Gc Gh
  refine xs_go hsuf (D := []) (by rfl) fun Gc Gh hGc hGh X hX0 hX => ?_
  simp -implicitDefEqProofs [hX0, hX]
  try clear hX0 hX X
  intros
  refine hK _ _ _ ?_
  clear hK hGc hGh
  clear K Gc Gh
  unfold nextD
  generalize daysTo n d.toNat 64 = l at hlen ⊢
  cases l with
  | nil =>
    repeat refine pw_seq ?_
    refine pw_N [] (by rfl) (by rfl) fun K Gc Gh hK hGc hGh X hX0 hX => ?_
    simp -implicitDefEqProofs [hX0, hX]
    try clear hX0 hX X
    intros
    refine hK _ _ _ ?_
    clear hK hGc hGh
    clear K Gc Gh
    repeat refine pw_seq ?_
    refine pw_ct rfl ?_
    repeat refine pw_seq ?_
    refine pw_N [] (by rfl) (by rfl) fun K Gc Gh hK hGc hGh X hX0 hX => ?_
    simp -implicitDefEqProofs [hX0, hX]
    try clear hX0 hX X
    intros
    refine hK _ _ _ ?_
    clear hK hGc hGh
    clear K Gc Gh
    repeat refine pw_seq ?_
    exact pw_ret (ret_pure hd (by simp; rfl) rfl)
  | cons a l =>
    have h1 : ¬ ((l.length : Int) + 1 = 0) := by omega
    repeat refine pw_seq ?_
    refine pw_N [] (by rfl) (by rfl) fun K Gc Gh hK hGc hGh X hX0 hX => ?_
    simp -implicitDefEqProofs [hX0, hX, h1]
    try clear hX0 hX X
    intros
    refine hK _ _ _ ?_
    clear hK hGc hGh
    clear K Gc Gh
    repeat refine pw_seq ?_
    refine pw_cf rfl ?_
    refine pw_skip ?_
    have h2 : (0 : Int) < (l.length : Int) + 1 := by omega
    repeat refine pw_seq ?_
    refine pw_N [] (by rfl) (by rfl) fun K Gc Gh hK hGc hGh X hX0 hX => ?_
    simp -implicitDefEqProofs [hX0, hX, h2]
    try clear hX0 hX X
    intros
    refine hK _ _ _ ?_
    clear hK hGc hGh
    clear K Gc Gh
    repeat refine pw_seq ?_
    exact pw_ret (ret_pure hd (by simp; rfl) rfl)

end Go.Proofs.YtlkcdaeknioanaaGreat.Pv
