/- Bits of a number, by the reference. -/
import Derived.Test.YtafcjklojnhbnaaGreatTy
import Derived.Test.YtafcjklojnhbnaaGreatFa
namespace Go.Proofs.YtafcjklojnhbnaaGreat.Pv
open Go

def bitN (n i : Nat) : Nat := n / 2 ^ i % 2
def bitsZ (n : Nat) : List Int := (List.range 64).map fun i => ((bitN n i : Nat) : Int)
def numB : List Int → Int
  | [] => 0
  | b :: l => 2 * numB l + b

theorem bitsZ_len (n : Nat) : (bitsZ n).length = 64 := by simp [bitsZ]
theorem bitN_le (n i : Nat) : bitN n i ≤ 1 := by unfold bitN; omega
theorem bitsZ_01 (n : Nat) : ∀ b ∈ bitsZ n, b = 0 ∨ b = 1 := by
  intro b hb
  simp only [bitsZ, List.mem_map] at hb
  obtain ⟨i, _, rfl⟩ := hb
  have := bitN_le n i
  omega
theorem numB_le (l : List Int) (h : ∀ b ∈ l, b = 0 ∨ b = 1) : 0 ≤ numB l ∧ numB l < 2 ^ l.length := by
  induction l with
  | nil => simp [numB]
  | cons b l ih =>
    obtain ⟨h1, h2⟩ := ih (fun c hc => h c (by simp [hc]))
    have := h b (by simp)
    simp only [numB, List.length_cons, Int.pow_succ]
    omega

/-- A cell of a list of numbers is written. -/
theorem splice_int (l : List Int) (k : Nat) (v : Int) (h : k < l.length) : splice (l.flatMap Enc.enc) k [I v] = (l.set k v).flatMap Enc.enc := by
  have e : ∀ l : List Int, l.flatMap Enc.enc = l.map I := fun l => by induction l <;> simp_all
  rw [e, e, splice, List.map_set, List.set_eq_take_append_cons_drop, if_pos (by simpa using h)]
  simp
theorem zeros_int (n : Nat) : zerosP n (.int .i64 0) = (List.replicate n (0 : Int)).flatMap Enc.enc := by
  induction n with
  | zero => simp
  | succ n ih => rw [zerosP_succ', ih, List.replicate_succ]; simp [zeroCellsOf, Value.cells]

def bitsTo (n k : Nat) : List Int := (List.range 64).map fun i => if i < k then ((bitN n i : Nat) : Int) else 0
theorem bitsTo_zero (n : Nat) : bitsTo n 0 = List.replicate 64 0 := by
  apply List.ext_getElem
  · simp [bitsTo]
  · intro i h1 h2; simp only [List.getElem_replicate]; simp [bitsTo]
theorem bitsTo_all (n k : Nat) (h : 64 ≤ k) : bitsTo n k = bitsZ n := by
  apply List.ext_getElem
  · simp [bitsTo, bitsZ]
  · intro i h1 h2
    simp [bitsTo] at h1
    simp [bitsTo, bitsZ, show i < k by omega]
theorem bitsTo_succ (n k : Nat) (_ : k < 64) : (bitsTo n k).set k ((bitN n k : Nat) : Int) = bitsTo n (k + 1) := by
  apply List.ext_getElem
  · simp [bitsTo]
  · intro i h1 h2
    rw [List.getElem_set]
    simp only [bitsTo, List.getElem_map, List.getElem_range]
    split
    · rename_i e; subst e; simp
    · rename_i e
      by_cases q : i < k
      · rw [if_pos q, if_pos (by omega)]
      · rw [if_neg q, if_neg (by omega)]
theorem bitsTo_len (n k : Nat) : (bitsTo n k).length = 64 := by simp [bitsTo]

set_option maxRecDepth 20000 in
theorem bits_own (n : Nat) (hn : n < 2 ^ 64) (S : Store) (nx : Nat) (hd : DeadFrom nx S) : Spec Tryz.prog 82 [U n] S (fun p S' => ∃ v, p = .sl nx v 1 0 64 ∧ S' = S.set nx (.cells v 3 ((bitsZ n).flatMap Enc.enc))) := by
  refine spec_at hd Tryz.func82 (by rfl) rfl Tryz.ntmps82 (congrArg Array.toList Tryz.results82) (by simp) ?_
  repeat refine pw_seq ?_
  refine pw_N [] (by rfl) (by rfl) fun K Gc Gh hK hGc hGh X hX0 hX => ?_
  simp -implicitDefEqProofs [hX0, hX]
  try clear hX0 hX X
  intros
  refine hK _ _ _ ?_
  clear hK hGc hGh
  clear K Gc Gh
  repeat refine pw_seq ?_
  refine pw_N [] (by rfl) (by rfl) fun K Gc Gh hK hGc hGh X hX0 hX => ?_
  simp -implicitDefEqProofs [hX0, hX]
  try clear hX0 hX X
  intro v0
  refine hK _ _ _ ?_
  clear hK hGc hGh
  clear K Gc Gh
  repeat refine pw_seq ?_
  refine pw_N [] (by rfl) (by rfl) fun K Gc Gh hK hGc hGh X hX0 hX => ?_
  simp -implicitDefEqProofs [hX0, hX]
  try clear hX0 hX X
  intros
  refine hK _ _ _ ?_
  clear hK hGc hGh
  clear K Gc Gh
  repeat refine pw_seq ?_
  refine pw_block (pw_loopL (fun s : Nat × Nat => s.1 ≤ 64) (fun (k, v) => [(0, U (n / 2 ^ k)), (3, .sl nx v 1 0 64), (4, I k)]) (fun (k, v) => [.cells v 3 ((bitsTo n k).flatMap Enc.enc)]) (fun s => 64 - s.1) (0, v0) [] (by simp) (by simp) (by simp [bitsTo_zero, zeros_int]) ?_)
  rintro ⟨k, v⟩ hk
  simp only at hk ⊢
  repeat refine pw_seq ?_
  refine pw_N [] (by rfl) (by rfl) fun K Gc Gh hK hGc hGh X hX0 hX => ?_
  simp -implicitDefEqProofs [hX0, hX]
  try clear hX0 hX X
  intros
  refine hK _ _ _ ?_
  clear hK hGc hGh
  clear K Gc Gh
  repeat refine pw_seq ?_
  refine pw_cond rfl (fun hc => ?_) (fun hc => ?_)
  · simp at hc
    have hc' : k < 64 := by omega
    have hl := bitsTo_len n k
    have hm : n / 2 ^ k < 18446744073709551616 := Nat.lt_of_le_of_lt (Nat.div_le_self _ _) hn
    generalize hm' : n / 2 ^ k = m at *
    have t1 : (m : Int).tmod 2 = (m : Int) % 2 := Int.tmod_eq_emod_of_nonneg (by omega)
    have t2 : IntKind.i64.wrap ((m : Int) % 2) = (m : Int) % 2 := wr _ (by omega) (by omega)
    have t3 : IntKind.u64.wrap ((m : Int) / 2) = (m : Int) / 2 := IntWalk.u64_in _ (by omega)
    have t7 : (m : Int).tdiv 2 = (m : Int) / 2 := Int.tdiv_eq_ediv_of_nonneg (by omega)
    have t4 : m % 2 = bitN n k := by unfold bitN; rw [hm']
    have t5 : m / 2 = n / 2 ^ (k + 1) := by rw [← hm', Nat.div_div_eq_div_mul, Nat.pow_succ]
    have t6 : (m : Int) / 2 = (n : Int) / 2 ^ (k + 1) := by exact_mod_cast t5
    have t8 : (m : Int) % 2 = (bitN n k : Nat) := by exact_mod_cast t4
    have hs := splice_int (bitsTo n k) k ((m : Int) % 2) (by omega)
    refine pw_skip (pw_seq (pw_block ?_))
    repeat refine pw_seq ?_
    refine pw_N [] (by rfl) (by rfl) fun K Gc Gh hK hGc hGh X hX0 hX => ?_
    simp -implicitDefEqProofs [hX0, hX, hc, t1, t2, hs, hl]
    try clear hX0 hX X
    refine ⟨by omega, ?_⟩
    intros
    refine hK _ _ _ ?_
    clear hK hGc hGh
    clear K Gc Gh
    repeat refine pw_seq ?_
    refine pw_N [] (by rfl) (by rfl) fun K Gc Gh hK hGc hGh X hX0 hX => ?_
    simp -implicitDefEqProofs [hX0, hX, t3, t7]
    try clear hX0 hX X
    intros
    refine hK _ _ _ ?_
    clear hK hGc hGh
    clear K Gc Gh
    repeat refine pw_seq ?_
    refine pw_N [] (by rfl) (by rfl) fun K Gc Gh hK hGc hGh X hX0 hX => ?_
    simp -implicitDefEqProofs [hX0, hX]
    try clear hX0 hX X
    intros
    refine hK _ _ _ ?_
    clear hK hGc hGh
    clear K Gc Gh
    exact again_mk (k + 1, v) [] hc' (by simp; omega) (by simp [wrN k (by omega), t6]) rfl (by simp [← bitsTo_succ n k hc', ← t8])
  · simp at hc
    have hk' : k = 64 := by omega
    subst hk'
    refine pw_exit ?_
    repeat refine pw_seq ?_
    refine pw_N [] (by rfl) (by rfl) fun K Gc Gh hK hGc hGh X hX0 hX => ?_
    simp -implicitDefEqProofs [hX0, hX]
    try clear hX0 hX X
    intros
    refine hK _ _ _ ?_
    clear hK hGc hGh
    clear K Gc Gh
    refine pw_ret ⟨_, _, rfl, ⟨v, rfl, rfl⟩, keep_one (j := 0) hd (by simp [bitsTo_all n 64])⟩

theorem bits_ok (n : Nat) (hn : n < 2 ^ 64) : Pure Tryz.prog 82 [U n] (L (bitsZ n)) := by
  have := own_pure 0 (fun S nx hd => bits_own n hn S nx hd) (by simp [bitsZ_len])
  rw [← bitsZ_len n] at this
  exact this

set_option maxRecDepth 20000 in
theorem number_ok (l : List Int) (hl : l.length = 64) (h01 : ∀ b ∈ l, b = 0 ∨ b = 1) : Pure Tryz.prog 83 [L l] (.sc (.int .u64 (numB l))) := by
  refine pure_enter Tryz.func83 (by rfl) rfl Tryz.ntmps83 (congrArg Array.toList Tryz.results83) (by simp) fun S nx hd => ?_
  repeat refine pw_seq ?_
  refine pw_N [] (by rfl) (by rfl) fun K Gc Gh hK hGc hGh X hX0 hX => ?_
  simp -implicitDefEqProofs [hX0, hX]
  try clear hX0 hX X
  intros
  refine hK _ _ _ ?_
  clear hK hGc hGh
  clear K Gc Gh
  repeat refine pw_seq ?_
  refine pw_N [] (by rfl) (by rfl) fun K Gc Gh hK hGc hGh X hX0 hX => ?_
  simp -implicitDefEqProofs [hX0, hX]
  try clear hX0 hX X
  intros
  refine hK _ _ _ ?_
  clear hK hGc hGh
  clear K Gc Gh
  repeat refine pw_seq ?_
  refine pw_N [] (by rfl) (by rfl) fun K Gc Gh hK hGc hGh X hX0 hX => ?_
  simp -implicitDefEqProofs [hX0, hX]
  try clear hX0 hX X
  intros
  refine hK _ _ _ ?_
  clear hK hGc hGh
  clear K Gc Gh
  repeat refine pw_seq ?_
  refine pw_block (pw_loopL (fun m : Nat => m ≤ 64) (fun m => [(0, L l), (3, .sc (.int .u64 (numB (l.drop m)))), (4, I ((m : Int) - 1))]) (fun _ => []) (fun m => m) 64 [] (by simp) (by simp [List.drop_of_length_le (Nat.le_of_eq hl), numB]) (by simp) ?_)
  rintro m hm
  repeat refine pw_seq ?_
  refine pw_N [] (by rfl) (by rfl) fun K Gc Gh hK hGc hGh X hX0 hX => ?_
  simp -implicitDefEqProofs [hX0, hX]
  try clear hX0 hX X
  intros
  refine hK _ _ _ ?_
  clear hK hGc hGh
  clear K Gc Gh
  repeat refine pw_seq ?_
  refine pw_cond rfl (fun hc => ?_) (fun hc => ?_)
  · simp at hc
    obtain ⟨j, rfl⟩ : ∃ j, m = j + 1 := ⟨m - 1, by omega⟩
    obtain ⟨b, tl, a1, a2, a3, e0⟩ := el1 rfl l j (by omega)
    have hb := h01 b (List.mem_of_getElem? a1)
    have q := numB_le (l.drop (j + 1)) (fun c hc => h01 c (List.mem_of_mem_drop hc))
    have q2 : (2 : Int) ^ (l.drop (j + 1)).length ≤ 9223372036854775808 := by
      have : (l.drop (j + 1)).length ≤ 63 := by simp; omega
      calc (2 : Int) ^ (l.drop (j + 1)).length ≤ 2 ^ 63 := by exact_mod_cast Nat.pow_le_pow_right (by decide) this
        _ = 9223372036854775808 := by decide
    have g1 : (j : Int) < l.length := by omega
    have u1 : IntKind.u64.wrap (2 * numB (l.drop (j + 1))) = 2 * numB (l.drop (j + 1)) := IntWalk.u64_in _ (by omega)
    have u2 : IntKind.u64.wrap b = b := IntWalk.u64_in _ (by omega)
    have u3 : IntKind.u64.wrap (2 * numB (l.drop (j + 1)) + b) = numB (l.drop j) := by rw [IntWalk.u64_in _ (by omega), a2]; rfl
    have s1 : ((j : Int) + 1 - 1) = j := by omega
    refine pw_skip (pw_seq (pw_block ?_))
    repeat refine pw_seq ?_
    refine pw_N [] (by rfl) (by rfl) fun K Gc Gh hK hGc hGh X hX0 hX => ?_
    simp -implicitDefEqProofs [hX0, hX, e0, g1, u1, u2, u3, s1]
    try clear hX0 hX X
    intros
    refine hK _ _ _ ?_
    clear hK hGc hGh
    clear K Gc Gh
    repeat refine pw_seq ?_
    refine pw_N [] (by rfl) (by rfl) fun K Gc Gh hK hGc hGh X hX0 hX => ?_
    simp -implicitDefEqProofs [hX0, hX]
    try clear hX0 hX X
    intros
    refine hK _ _ _ ?_
    clear hK hGc hGh
    clear K Gc Gh
    have w1 : IntKind.i64.wrap ((j : Int) - 1) = (j : Int) - 1 := wr _ (by omega) (by omega)
    exact again_mk j [] (by omega) (by omega) (by simp [w1]) rfl (by simp)
  · simp at hc
    have hk' : m = 0 := by omega
    subst hk'
    refine pw_exit ?_
    repeat refine pw_seq ?_
    refine pw_N [] (by rfl) (by rfl) fun K Gc Gh hK hGc hGh X hX0 hX => ?_
    simp -implicitDefEqProofs [hX0, hX]
    try clear hX0 hX X
    intros
    refine hK _ _ _ ?_
    clear hK hGc hGh
    clear K Gc Gh
    repeat refine pw_seq ?_
    exact pw_ret (ret_pure hd rfl rfl)

theorem bit_at (n d : Nat) (h : d < 64) : (bitsZ n)[d]? = some ((bitN n d : Nat) : Int) := by simp [bitsZ, h]

set_option maxRecDepth 20000 in
theorem has_ok (n : Nat) (d : Int) (hn : n < 2 ^ 64) (h0 : 0 ≤ d) (h1 : d ≤ 63) : Pure Tryz.prog 50 [U n, I d] (B (decide (bitN n d.toNat = 1))) := by
  obtain ⟨k, rfl⟩ := Int.eq_ofNat_of_zero_le h0
  have hk : k < 64 := by omega
  have hl := bitsZ_len n
  obtain ⟨b, tl, a1, a2, a3, e0⟩ := el1 rfl (bitsZ n) k (by omega)
  rw [bit_at n k hk] at a1; cases a1
  have g1 : (k : Int) < 64 := by omega
  have g3 : ¬ (63 : Int) < k := by omega
  refine pure_enter Tryz.func50 (by rfl) rfl Tryz.ntmps50 (congrArg Array.toList Tryz.results50) (by simp) fun S nx hd => ?_
  repeat refine pw_seq ?_
  refine pw_N [] (by rfl) (by rfl) fun K Gc Gh hK hGc hGh X hX0 hX => ?_
  simp -implicitDefEqProofs [hX0, hX]
  try clear hX0 hX X
  intros
  refine hK _ _ _ ?_
  clear hK hGc hGh
  clear K Gc Gh
  repeat refine pw_seq ?_
  refine pw_N [(2, 8)] (by rfl) (by rfl) fun K Gc Gh hK hGc hGh X hX0 hX => ?_
  simp -implicitDefEqProofs [hX0, hX, g3]
  try clear hX0 hX X
  intros
  refine hK _ _ _ ?_
  clear hK hGc hGh
  clear K Gc Gh
  repeat refine pw_seq ?_
  refine pw_cf rfl ?_
  refine pw_skip ?_
  repeat refine pw_seq ?_
  refine pw_N [] (by rfl) (by rfl) fun K Gc Gh hK hGc hGh X hX0 hX => ?_
  simp -implicitDefEqProofs [hX]
  try clear hX0 hX X
  refine hGc _ _ _ _ _ _ _ fun hsuf => ((bits_ok n hn _).mono ?_).v
  rintro _ _ ⟨rfl, rfl⟩
  refine ⟨_, _, rfl, ?_⟩
  clear hGc hGh
  clear Gc Gh
  refine xs_go hsuf (D := []) (by rfl) fun Gc Gh hGc hGh X hX0 hX => ?_
  simp -implicitDefEqProofs [hX0, hX]
  try clear hX0 hX X
  intros
  refine hK _ _ _ ?_
  clear hK hGc hGh
  clear K Gc Gh
  repeat refine pw_seq ?_
  refine pw_N [] (by rfl) (by rfl) fun K Gc Gh hK hGc hGh X hX0 hX => ?_
  simp -implicitDefEqProofs [hX0, hX, e0, g1, hl]
  try clear hX0 hX X
  intros
  refine hK _ _ _ ?_
  clear hK hGc hGh
  clear K Gc Gh
  repeat refine pw_seq ?_
  exact pw_ret (ret_pure hd rfl (by simp; omega))

/-- A number with a bit put. -/
def putN (n d : Nat) : Int := numB ((bitsZ n).set d 1)

theorem mem_set {l : List Int} {d : Nat} {v b : Int} (h : b ∈ l.set d v) : b ∈ l ∨ b = v := by
  rcases List.mem_or_eq_of_mem_set h with h | h
  · exact .inl h
  · exact .inr h

set_option maxRecDepth 20000 in
theorem put_ok (n : Nat) (d : Int) (hn : n < 2 ^ 64) (h0 : 0 ≤ d) (h1 : d ≤ 63) : Pure Tryz.prog 51 [U n, I d, I 1] (.sc (.int .u64 (putN n d.toNat))) := by
  obtain ⟨k, rfl⟩ := Int.eq_ofNat_of_zero_le h0
  have hk : k < 64 := by omega
  have hl := bitsZ_len n
  have g1 : (k : Int) < 64 := by omega
  have g3 : ¬ (63 : Int) < k := by omega
  have hs := splice_int (bitsZ n) k 1 (by omega)
  refine pure_enter Tryz.func51 (by rfl) rfl Tryz.ntmps51 (congrArg Array.toList Tryz.results51) (by simp) fun S nx hd => ?_
  repeat refine pw_seq ?_
  refine pw_N [] (by rfl) (by rfl) fun K Gc Gh hK hGc hGh X hX0 hX => ?_
  simp -implicitDefEqProofs [hX0, hX]
  try clear hX0 hX X
  intros
  refine hK _ _ _ ?_
  clear hK hGc hGh
  clear K Gc Gh
  repeat refine pw_seq ?_
  refine pw_N [(2, 10)] (by rfl) (by rfl) fun K Gc Gh hK hGc hGh X hX0 hX => ?_
  simp -implicitDefEqProofs [hX0, hX, g3]
  try clear hX0 hX X
  intros
  refine hK _ _ _ ?_
  clear hK hGc hGh
  clear K Gc Gh
  repeat refine pw_seq ?_
  refine pw_cf rfl ?_
  refine pw_skip ?_
  repeat refine pw_seq ?_
  refine pw_N [] (by rfl) (by rfl) fun K Gc Gh hK hGc hGh X hX0 hX => ?_
  simp -implicitDefEqProofs [hX]
  try clear hX0 hX X
  refine hGc _ _ _ _ _ _ _ fun hsuf => ((bits_own n hn _ _ ext_dead).mono ?_).v
  rintro _ _ ⟨v, rfl, rfl⟩
  refine ⟨_, _, ext_push _, ?_⟩
  clear hGc hGh
  clear Gc Gh
  refine xs_go hsuf (D := []) (by rfl) fun Gc Gh hGc hGh X hX0 hX => ?_
  simp -implicitDefEqProofs [hX0, hX]
  clear hX0 hX X
  intros
  refine hK _ _ _ ?_
  clear hK hGc hGh
  clear K Gc Gh
  repeat refine pw_seq ?_
  refine pw_N [] (by rfl) (by rfl) fun K Gc Gh hK hGc hGh X hX0 hX => ?_
  simp -implicitDefEqProofs [hX0, hX, g1, hs, hl]
  try clear hX0 hX X
  refine ⟨by omega, ?_⟩
  intros
  refine hK _ _ _ ?_
  clear hK hGc hGh
  clear K Gc Gh
  refine pw_frz 0 rfl ?_
  have hl2 : ((bitsZ n).set k 1).length = 64 := by simp [hl]
  have this0 := number_ok ((bitsZ n).set k 1) hl2 (fun b hb => by
    rcases mem_set hb with h | h
    · exact bitsZ_01 n b h
    · exact .inr h)
  have this : Pure Tryz.prog 83 [.lst 64 (((bitsZ n).set k 1).flatMap Enc.enc)] (.sc (.int .u64 (numB ((bitsZ n).set k 1)))) := by rw [show (64 : Nat) = ((bitsZ n).set k 1).length from hl2.symm]; exact this0
  repeat refine pw_seq ?_
  refine pw_N [] (by rfl) (by rfl) fun K Gc Gh hK hGc hGh X hX0 hX => ?_
  simp -implicitDefEqProofs [hX, hl]
  try clear hX0 hX X
  refine hGc _ _ _ _ _ _ _ fun hsuf => ((this _).mono ?_).v
  rintro _ _ ⟨rfl, rfl⟩
  refine ⟨_, _, rfl, ?_⟩
  clear hGc hGh
  clear Gc Gh
  refine xs_go hsuf (D := []) (by rfl) fun Gc Gh hGc hGh X hX0 hX => ?_
  simp -implicitDefEqProofs [hX0, hX]
  try clear hX0 hX X
  intros
  refine hK _ _ _ ?_
  clear hK hGc hGh
  clear K Gc Gh
  repeat refine pw_seq ?_
  exact pw_ret (ret_pure hd rfl rfl)

end Go.Proofs.YtafcjklojnhbnaaGreat.Pv
