/- The plain reference of the heap: lists that are kept in order. -/
import Derived.Test.YtpifkibgplnnkaaHi
namespace Go.Proofs.Ytpifkibgplnnkaa.Pv
open Go Hp

instance : Enc (Int × Int) := ⟨fun x => [I x.1, I x.2], 2, fun _ => rfl, fun _ => rfl⟩
@[simp] theorem enc_item (s : Int × Int) : Enc.enc s = [I s.1, I s.2] := rfl
@[simp high] theorem flen_item (l : Its Int) : (l.flatMap Enc.enc).length = l.length * 2 := flat_length l
@[simp high] theorem ftake_item (l : Its Int) : (l.flatMap Enc.enc).take (l.length * 2) = l.flatMap Enc.enc := flat_take' l

def putL (id w : Int) (r : Its Int) : Its Int := bif hasI id r then r else insI (id, w) r
def chgL (id w : Int) (r : Its Int) : Its Int := bif hasI id r then insI (id, w) (outI id r) else r
theorem putL_t {id w : Int} {r : Its Int} (h : hasI id r = true) : putL id w r = r := by simp [putL, h]
theorem putL_f {id w : Int} {r : Its Int} (h : hasI id r = false) : putL id w r = insI (id, w) r := by simp [putL, h]

theorem hasI_snoc (id : Int) (r : Its Int) (x : Int × Int) : hasI id (r ++ [x]) = (hasI id r || decide (x.1 = id)) := by simp [hasI]
theorem outI_snoc (id : Int) (r : Its Int) (x : Int × Int) : outI id (r ++ [x]) = outI id r ++ (if x.1 = id then [] else [x]) := by
  simp only [outI, List.filter_append]
  by_cases h : x.1 = id <;> simp [h]
theorem hasI_at {id : Int} {r : Its Int} {k : Nat} {x : Int × Int} (h : r[k]? = some x) (e : x.1 = id) : hasI id r = true := by
  simp only [hasI, List.any_eq_true]; exact ⟨x, List.mem_of_getElem? h, by simpa using e⟩
theorem hasI_out (id : Int) (r : Its Int) : hasI id (outI id r) = false := by
  simp only [hasI, outI, List.any_eq_false, List.mem_filter]
  rintro x ⟨_, h⟩ q
  simp at h q
  exact h q

def worthO (id : Int) (r : Its Int) : Int × Bool := match r.find? (fun x => decide (x.1 = id)) with
  | some x => (x.2, true)
  | none => (0, false)

theorem ins_pos {x y : Int × Int} {l : Its Int} (h : ilt x y = true) : insI x (y :: l) = x :: y :: l := by simp [insI, h]
theorem ins_neg {x y : Int × Int} {l : Its Int} (h : ilt x y = false) : insI x (y :: l) = y :: insI x l := by simp [insI, h]

set_option maxRecDepth 10000 in
theorem putR_ok (r : Its Int) (id w : Int) (hl : r.length ≤ 1048576) : Pure Try.prog 29 [L r, I id, I w] (.tup [L (putL id w r), B (!hasI id r)]) := by
  refine pure_enter Try.func29 (by rfl) rfl Try.ntmps29 (congrArg Array.toList Try.results29) (by simp) fun S nx hd => ?_
  repeat refine pw_seq ?_
  refine pw_N [] (by rfl) (by rfl) fun K Gc Gh hK hGc hGh X hX0 hX => ?_
  simp -implicitDefEqProofs [hX0, hX]
  try clear hX0 hX X
  intros
  refine hK _ _ _ ?_
  clear hK hGc hGh
  clear K Gc Gh
  repeat refine pw_seq ?_
  refine pw_N [] (by rfl) (by rfl) fun K Gc Gh hK hGc hGh X hX0 hX => ?_
  simp -implicitDefEqProofs [hX0, hX]
  try clear hX0 hX X
  intros
  refine hK _ _ _ ?_
  clear hK hGc hGh
  clear K Gc Gh
  repeat refine pw_seq ?_
  refine pw_block (pw_loopL (fun k : Nat => k ≤ r.length ∧ hasI id (r.take k) = false) (fun k => [(0, L r), (1, I id), (2, I w), (8, I k)]) (fun _ => []) (fun k => r.length - k) 0 [] (by simp [hasI]) (by simp) (by simp) ?_)
  rintro k ⟨hk, hn⟩
  repeat refine pw_seq ?_
  refine pw_N [] (by rfl) (by rfl) fun K Gc Gh hK hGc hGh X hX0 hX => ?_
  simp -implicitDefEqProofs [hX0, hX]
  try clear hX0 hX X
  intros
  refine hK _ _ _ ?_
  clear hK hGc hGh
  clear K Gc Gh
  repeat refine pw_seq ?_
  refine pw_cond rfl (fun hc => ?_) (fun hc => ?_)
  · simp at hc
    obtain ⟨s, tl, a1, a2, a3, e1, e0⟩ := el 2 rfl r k hc
    refine pw_skip (pw_seq (pw_block ?_))
    repeat refine pw_seq ?_
    refine pw_N [] (by rfl) (by rfl) fun K Gc Gh hK hGc hGh X hX0 hX => ?_
    simp -implicitDefEqProofs [hX0, hX, hc, e0]
    try clear hX0 hX X
    intros
    refine hK _ _ _ ?_
    clear hK hGc hGh
    clear K Gc Gh
    repeat refine pw_seq ?_
    refine pw_cond rfl (fun hq => ?_) (fun hq => ?_)
    · simp at hq
      repeat refine pw_seq ?_
      refine pw_N [] (by rfl) (by rfl) fun K Gc Gh hK hGc hGh X hX0 hX => ?_
      simp -implicitDefEqProofs [hX0, hX]
      try clear hX0 hX X
      intros
      refine hK _ _ _ ?_
      clear hK hGc hGh
      clear K Gc Gh
      repeat refine pw_seq ?_
      exact pw_ret (ret_pure hd rfl (by rw [putL_t (hasI_at a1 hq), hasI_at a1 hq]; rfl))
    · simp at hq
      refine pw_skip ?_
      repeat refine pw_seq ?_
      refine pw_N [] (by rfl) (by rfl) fun K Gc Gh hK hGc hGh X hX0 hX => ?_
      simp -implicitDefEqProofs [hX0, hX]
      try clear hX0 hX X
      intros
      refine hK _ _ _ ?_
      clear hK hGc hGh
      clear K Gc Gh
      exact again_mk (k + 1) [] ⟨hc, by rw [a3, hasI_snoc, hn]; simp [hq]⟩ (by omega) (by simp [wrN k (by omega)]) rfl (by simp)
  simp at hc
  rw [List.take_of_length_le hc] at hn
  clear hk hc
  refine pw_exit ?_
  repeat refine pw_seq ?_
  refine pw_N [] (by rfl) (by rfl) fun K Gc Gh hK hGc hGh X hX0 hX => ?_
  simp -implicitDefEqProofs [hX0, hX]
  try clear hX0 hX X
  intros
  refine hK _ _ _ ?_
  clear hK hGc hGh
  clear K Gc Gh
  refine pw_seq (pw_nilX 9 63 2 rfl fun v1 => ?_)
  repeat refine pw_seq ?_
  refine pw_N [] (by rfl) (by rfl) fun K Gc Gh hK hGc hGh X hX0 hX => ?_
  simp -implicitDefEqProofs [hX0, hX]
  try clear hX0 hX X
  intros
  refine hK _ _ _ ?_
  clear hK hGc hGh
  clear K Gc Gh
  repeat refine pw_seq ?_
  refine pw_N [] (by rfl) (by rfl) fun K Gc Gh hK hGc hGh X hX0 hX => ?_
  simp -implicitDefEqProofs [hX0, hX]
  try clear hX0 hX X
  intros
  refine hK _ _ _ ?_
  clear hK hGc hGh
  clear K Gc Gh
  repeat refine pw_seq ?_
  refine pw_block (pw_loopL (fun s : Nat × Its Int × Bool × Nat => s.1 ≤ r.length ∧ s.2.1.length ≤ s.1 + s.2.2.1.toNat ∧ insI (id, w) r = s.2.1 ++ (if s.2.2.1 then r.drop s.1 else insI (id, w) (r.drop s.1))) (fun (k, out, b, v) => [(0, L r), (1, I id), (2, I w), (9, .sl nx v 2 0 out.length), (10, B b), (11, I k)]) (fun (k, out, b, v) => [.cells v 63 (out.flatMap Enc.enc)]) (fun s => r.length - s.1) (0, [], false, v1) [] (by simp) (by simp) (by simp) ?_)
  rintro ⟨k, out, b, v⟩ ⟨hk, hol, ho⟩
  simp only at hk hol ho ⊢
  repeat refine pw_seq ?_
  refine pw_N [] (by rfl) (by rfl) fun K Gc Gh hK hGc hGh X hX0 hX => ?_
  simp -implicitDefEqProofs [hX0, hX]
  try clear hX0 hX X
  intros
  refine hK _ _ _ ?_
  clear hK hGc hGh
  clear K Gc Gh
  repeat refine pw_seq ?_
  refine pw_cond rfl (fun hc => ?_) (fun hc => ?_)
  · simp at hc
    obtain ⟨s, tl, a1, a2, a3, e1, e0⟩ := el 2 rfl r k hc
    refine pw_skip (pw_seq (pw_block ?_))
    have hwr := wrN k (by omega)
    have htk : List.take (out.length * 2 + 2) (out.flatMap Enc.enc ++ [I id, I w]) = out.flatMap Enc.enc ++ [I id, I w] := List.take_of_length_le (by simp)
    by_cases hb : b = true
    · subst hb
      simp at hol
      repeat refine pw_seq ?_
      refine pw_N [(2, 34), (10, 42), (18, 50)] (by rfl) (by rfl) fun K Gc Gh hK hGc hGh X hX0 hX => ?_
      simp -implicitDefEqProofs [hX0, hX, hc, undef]
      try clear hX0 hX X
      intros
      refine hK _ _ _ ?_
      clear hK hGc hGh
      clear K Gc Gh
      repeat refine pw_seq ?_
      refine pw_cf rfl ?_
      refine pw_skip ?_
      repeat refine pw_seq ?_
      refine pw_N [] (by rfl) (by rfl) fun K Gc Gh hK hGc hGh X hX0 hX => ?_
      simp -implicitDefEqProofs [hX0, hX, hc, e0]
      try clear hX0 hX X
      refine ⟨by omega, ?_⟩
      intros
      refine hK _ _ _ ?_
      clear hK hGc hGh
      clear K Gc Gh
      repeat refine pw_seq ?_
      refine pw_N [] (by rfl) (by rfl) fun K Gc Gh hK hGc hGh X hX0 hX => ?_
      simp -implicitDefEqProofs [hX0, hX]
      try clear hX0 hX X
      intros
      refine hK _ _ _ ?_
      clear hK hGc hGh
      clear K Gc Gh
      exact again_mk (k + 1, out ++ [s], true, v + 1) [] ⟨hc, by simp; omega, by simp at ho; simp [ho, a2]⟩ (by simp; omega) (by simp [hwr]) rfl (by simp)
    have hb : b = false := by simpa using hb
    subst hb
    simp at hol
    by_cases h1 : w < s.2
    · have hi : ilt (id, w) s = true := by have := Int.ne_of_lt h1; simp [il, ltI, h1, this]
      repeat refine pw_seq ?_
      refine pw_N [(2, 34), (10, 42), (18, 50)] (by rfl) (by rfl) fun K Gc Gh hK hGc hGh X hX0 hX => ?_
      simp -implicitDefEqProofs [hX0, hX, hc, e0, h1, undef]
      try clear hX0 hX X
      intros
      refine hK _ _ _ ?_
      clear hK hGc hGh
      clear K Gc Gh
      repeat refine pw_seq ?_
      refine pw_ct rfl ?_
      repeat refine pw_seq ?_
      refine pw_N [] (by rfl) (by rfl) fun K Gc Gh hK hGc hGh X hX0 hX => ?_
      simp -implicitDefEqProofs [hX0, hX]
      try clear hX0 hX X
      refine ⟨by omega, ?_⟩
      intros
      refine hK _ _ _ ?_
      clear hK hGc hGh
      clear K Gc Gh
      repeat refine pw_seq ?_
      refine pw_N [] (by rfl) (by rfl) fun K Gc Gh hK hGc hGh X hX0 hX => ?_
      simp -implicitDefEqProofs [hX0, hX]
      try clear hX0 hX X
      intros
      refine hK _ _ _ ?_
      clear hK hGc hGh
      clear K Gc Gh
      repeat refine pw_seq ?_
      refine pw_N [] (by rfl) (by rfl) fun K Gc Gh hK hGc hGh X hX0 hX => ?_
      simp -implicitDefEqProofs [hX0, hX, hc, e0]
      try clear hX0 hX X
      refine ⟨by omega, ?_⟩
      intros
      refine hK _ _ _ ?_
      clear hK hGc hGh
      clear K Gc Gh
      repeat refine pw_seq ?_
      refine pw_N [] (by rfl) (by rfl) fun K Gc Gh hK hGc hGh X hX0 hX => ?_
      simp -implicitDefEqProofs [hX0, hX]
      try clear hX0 hX X
      intros
      refine hK _ _ _ ?_
      clear hK hGc hGh
      clear K Gc Gh
      exact again_mk (k + 1, out ++ [(id, w), s], true, v + 2) [] ⟨hc, by simp; omega, by simp at ho; rw [a2, ins_pos hi] at ho; simp [ho]⟩ (by simp; omega) (by simp [hwr]) rfl (by simp [Nat.add_mul, Nat.add_assoc, htk])
    by_cases h2 : s.2 = w
    · by_cases h3 : id < s.1
      · have hi : ilt (id, w) s = true := by simp [il, h2, h3]
        repeat refine pw_seq ?_
        refine pw_N [(2, 34), (10, 42), (18, 50)] (by rfl) (by rfl) fun K Gc Gh hK hGc hGh X hX0 hX => ?_
        simp -implicitDefEqProofs [hX0, hX, hc, e0, h2, h3]
        try clear hX0 hX X
        intros
        refine hK _ _ _ ?_
        clear hK hGc hGh
        clear K Gc Gh
        repeat refine pw_seq ?_
        refine pw_ct rfl ?_
        repeat refine pw_seq ?_
        refine pw_N [] (by rfl) (by rfl) fun K Gc Gh hK hGc hGh X hX0 hX => ?_
        simp -implicitDefEqProofs [hX0, hX]
        try clear hX0 hX X
        refine ⟨by omega, ?_⟩
        intros
        refine hK _ _ _ ?_
        clear hK hGc hGh
        clear K Gc Gh
        repeat refine pw_seq ?_
        refine pw_N [] (by rfl) (by rfl) fun K Gc Gh hK hGc hGh X hX0 hX => ?_
        simp -implicitDefEqProofs [hX0, hX]
        try clear hX0 hX X
        intros
        refine hK _ _ _ ?_
        clear hK hGc hGh
        clear K Gc Gh
        repeat refine pw_seq ?_
        refine pw_N [] (by rfl) (by rfl) fun K Gc Gh hK hGc hGh X hX0 hX => ?_
        simp -implicitDefEqProofs [hX0, hX, hc, e0]
        try clear hX0 hX X
        refine ⟨by omega, ?_⟩
        intros
        refine hK _ _ _ ?_
        clear hK hGc hGh
        clear K Gc Gh
        repeat refine pw_seq ?_
        refine pw_N [] (by rfl) (by rfl) fun K Gc Gh hK hGc hGh X hX0 hX => ?_
        simp -implicitDefEqProofs [hX0, hX]
        try clear hX0 hX X
        intros
        refine hK _ _ _ ?_
        clear hK hGc hGh
        clear K Gc Gh
        exact again_mk (k + 1, out ++ [(id, w), s], true, v + 2) [] ⟨hc, by simp; omega, by simp at ho; rw [a2, ins_pos hi] at ho; simp [ho]⟩ (by simp; omega) (by simp [hwr]) rfl (by simp [Nat.add_mul, Nat.add_assoc, htk])
      · have hi : ilt (id, w) s = false := by simp [il, h2]; omega
        repeat refine pw_seq ?_
        refine pw_N [(2, 34), (10, 42), (18, 50)] (by rfl) (by rfl) fun K Gc Gh hK hGc hGh X hX0 hX => ?_
        simp -implicitDefEqProofs [hX0, hX, hc, e0, h2, h3]
        try clear hX0 hX X
        intros
        refine hK _ _ _ ?_
        clear hK hGc hGh
        clear K Gc Gh
        repeat refine pw_seq ?_
        refine pw_cf rfl ?_
        refine pw_skip ?_
        repeat refine pw_seq ?_
        refine pw_N [] (by rfl) (by rfl) fun K Gc Gh hK hGc hGh X hX0 hX => ?_
        simp -implicitDefEqProofs [hX0, hX, hc, e0]
        try clear hX0 hX X
        refine ⟨by omega, ?_⟩
        intros
        refine hK _ _ _ ?_
        clear hK hGc hGh
        clear K Gc Gh
        repeat refine pw_seq ?_
        refine pw_N [] (by rfl) (by rfl) fun K Gc Gh hK hGc hGh X hX0 hX => ?_
        simp -implicitDefEqProofs [hX0, hX]
        try clear hX0 hX X
        intros
        refine hK _ _ _ ?_
        clear hK hGc hGh
        clear K Gc Gh
        exact again_mk (k + 1, out ++ [s], false, v + 1) [] ⟨hc, by simp; omega, by simp at ho; rw [a2, ins_neg hi] at ho; simp [ho]⟩ (by simp; omega) (by simp [hwr]) rfl (by simp)
    · have hi : ilt (id, w) s = false := by simp [il, ltI, Ne.symm h2]; omega
      repeat refine pw_seq ?_
      refine pw_N [(2, 34), (10, 42), (18, 50)] (by rfl) (by rfl) fun K Gc Gh hK hGc hGh X hX0 hX => ?_
      simp -implicitDefEqProofs [hX0, hX, hc, e0, h1, h2, undef]
      try clear hX0 hX X
      intros
      refine hK _ _ _ ?_
      clear hK hGc hGh
      clear K Gc Gh
      repeat refine pw_seq ?_
      refine pw_cf rfl ?_
      refine pw_skip ?_
      repeat refine pw_seq ?_
      refine pw_N [] (by rfl) (by rfl) fun K Gc Gh hK hGc hGh X hX0 hX => ?_
      simp -implicitDefEqProofs [hX0, hX, hc, e0]
      try clear hX0 hX X
      refine ⟨by omega, ?_⟩
      intros
      refine hK _ _ _ ?_
      clear hK hGc hGh
      clear K Gc Gh
      repeat refine pw_seq ?_
      refine pw_N [] (by rfl) (by rfl) fun K Gc Gh hK hGc hGh X hX0 hX => ?_
      simp -implicitDefEqProofs [hX0, hX]
      try clear hX0 hX X
      intros
      refine hK _ _ _ ?_
      clear hK hGc hGh
      clear K Gc Gh
      exact again_mk (k + 1, out ++ [s], false, v + 1) [] ⟨hc, by simp; omega, by simp at ho; rw [a2, ins_neg hi] at ho; simp [ho]⟩ (by simp; omega) (by simp [hwr]) rfl (by simp)
  · simp at hc
    have hk' : k = r.length := by omega
    subst hk'
    refine pw_exit ?_
    repeat refine pw_seq ?_
    refine pw_N [] (by rfl) (by rfl) fun K Gc Gh hK hGc hGh X hX0 hX => ?_
    simp -implicitDefEqProofs [hX0, hX]
    try clear hX0 hX X
    intros
    refine hK _ _ _ ?_
    clear hK hGc hGh
    clear K Gc Gh
    cases b <;> simp at hol
    · repeat refine pw_seq ?_
      refine pw_ct rfl ?_
      repeat refine pw_seq ?_
      refine pw_N [] (by rfl) (by rfl) fun K Gc Gh hK hGc hGh X hX0 hX => ?_
      simp -implicitDefEqProofs [hX0, hX]
      try clear hX0 hX X
      refine ⟨by omega, ?_⟩
      intros
      refine hK _ _ _ ?_
      clear hK hGc hGh
      clear K Gc Gh
      repeat refine pw_seq ?_
      refine pw_N [] (by rfl) (by rfl) fun K Gc Gh hK hGc hGh X hX0 hX => ?_
      simp -implicitDefEqProofs [hX0, hX]
      try clear hX0 hX X
      intros
      refine hK _ _ _ ?_
      clear hK hGc hGh
      clear K Gc Gh
      refine pw_frz 0 rfl ?_
      repeat refine pw_seq ?_
      exact pw_ret (ret_pure hd rfl (by simp at ho; simp [hn, putL_f, ho, insI, Nat.add_mul]))
    · repeat refine pw_seq ?_
      refine pw_cf rfl ?_
      refine pw_skip ?_
      repeat refine pw_seq ?_
      refine pw_N [] (by rfl) (by rfl) fun K Gc Gh hK hGc hGh X hX0 hX => ?_
      simp -implicitDefEqProofs [hX0, hX]
      try clear hX0 hX X
      intros
      refine hK _ _ _ ?_
      clear hK hGc hGh
      clear K Gc Gh
      refine pw_frz 0 rfl ?_
      repeat refine pw_seq ?_
      exact pw_ret (ret_pure hd rfl (by simp at ho; simp [hn, putL_f, ho]))

theorem outI_le (id : Int) (r : Its Int) : (outI id r).length ≤ r.length := List.length_filter_le _ _

end Go.Proofs.Ytpifkibgplnnkaa.Pv
