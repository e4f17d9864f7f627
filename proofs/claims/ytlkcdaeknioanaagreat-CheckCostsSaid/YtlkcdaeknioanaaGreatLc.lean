/- A customer's days (book.Days), sets of days (days.Of), slices.Contains, tranterref08.Visits. -/
import Derived.Test.YtlkcdaeknioanaaGreatLb
namespace Go.Proofs.YtlkcdaeknioanaaGreat.Pv
open Go

set_option maxRecDepth 10000 in
theorem daysP_ok (p : Plan) (c : Int) (hp : PlanOk p) : Pure Tryz.prog 74 [.agg [L p], I c] (L ((visOf c (told 0 p)).map (·.d))) := by
  have hlen := Nat.le_trans (visOf_len c (told 0 p)) hp.told
  have hvis := visitsP_ok p c hp
  generalize visOf c (told 0 p) = vs at hlen hvis ⊢
  refine pure_enter Tryz.func74 (by rfl) rfl Tryz.ntmps74 (congrArg Array.toList Tryz.results74) (by simp) fun S nx hd => ?_
  repeat refine pw_seq ?_
  refine pw_N [] (by rfl) (by rfl) fun K Gc Gh hK hGc hGh X hX0 hX => ?_
  simp -implicitDefEqProofs [hX0, hX]
  try clear hX0 hX X
  intro v0
  refine hK _ _ _ ?_
  clear hK hGc hGh
  clear K Gc Gh
  repeat refine pw_seq ?_
  refine pw_N [] (by rfl) (by rfl) fun K Gc Gh hK hGc hGh X hX0 hX => ?_
  simp -implicitDefEqProofs [hX0, hX]
  try clear hX0 hX X
  intros
  refine hK _ _ _ ?_
  clear hK hGc hGh
  clear K Gc Gh
  refine pw_seq (pw_nilX 5 3 1 rfl fun v1 => ?_)
  repeat refine pw_seq ?_
  refine pw_N [] (by rfl) (by rfl) fun K Gc Gh hK hGc hGh X hX0 hX => ?_
  simp -implicitDefEqProofs [hX]
  try clear hX0 hX X
  refine hGc _ _ _ _ _ _ _ fun hsuf => ((hvis _).mono ?_).v
  rintro _ _ ⟨rfl, rfl⟩
  refine ⟨_, _, rfl, ?_⟩
  clear hGc hGh
  clear Gc Gh
  refine xs_go hsuf (D := []) (by rfl) fun Gc Gh hGc hGh X hX0 hX => ?_
  simp -implicitDefEqProofs [hX0, hX]
  try clear hX0 hX X
  intros
  refine hK _ _ _ ?_
  clear hK hGc hGh
  clear K Gc Gh
  repeat refine pw_seq ?_
  refine pw_block (pw_loopL (fun s : Nat × List Int × Nat => s.1 ≤ vs.length ∧ s.2.1 = (vs.take s.1).map (·.d)) (fun (k, out, v1) => [(5, .sl (nx + 1) v1 1 0 out.length), (10, L vs), (11, I vs.length), (12, I k)]) (fun (k, out, v1) => [.cells v0 30 [L p], .cells v1 3 (out.flatMap Enc.enc)]) (fun s => vs.length - s.1) (0, [], v1) [] (by simp) (by simp) (by simp) ?_)
  rintro ⟨k, out, v1⟩ ⟨hk, ho⟩
  simp only at hk ho ⊢
  have hol : out.length = k := by rw [ho]; simp; omega
  repeat refine pw_seq ?_
  refine pw_N [] (by rfl) (by rfl) fun K Gc Gh hK hGc hGh X hX0 hX => ?_
  simp -implicitDefEqProofs [hX0, hX]
  try clear hX0 hX X
  intros
  refine hK _ _ _ ?_
  clear hK hGc hGh
  clear K Gc Gh
  repeat refine pw_seq ?_
  refine pw_cond rfl (fun hc => ?_) (fun hc => ?_)
  · simp at hc
    obtain ⟨s, tl, a1, a2, a3, _, e0⟩ := el 2 rfl vs k hc
    refine pw_skip (pw_seq (pw_block ?_))
    repeat refine pw_seq ?_
    refine pw_N [] (by rfl) (by rfl) fun K Gc Gh hK hGc hGh X hX0 hX => ?_
    simp -implicitDefEqProofs [hX0, hX, e0, hc]
    try clear hX0 hX X
    intro v2
    refine hK _ _ _ ?_
    clear hK hGc hGh
    clear K Gc Gh
    repeat refine pw_seq ?_
    refine pw_N [] (by rfl) (by rfl) fun K Gc Gh hK hGc hGh X hX0 hX => ?_
    simp -implicitDefEqProofs [hX0, hX]
    try clear hX0 hX X
    refine ⟨by omega, ?_⟩
    intros
    refine hK _ _ _ ?_
    clear hK hGc hGh
    clear K Gc Gh
    repeat refine pw_seq ?_
    refine pw_N [] (by rfl) (by rfl) fun K Gc Gh hK hGc hGh X hX0 hX => ?_
    simp -implicitDefEqProofs [hX0, hX]
    try clear hX0 hX X
    intros
    refine hK _ _ _ ?_
    clear hK hGc hGh
    clear K Gc Gh
    exact again_mk (k + 1, out ++ [s.d], v1 + 1) [_] ⟨hc, by rw [a3, ho]; simp⟩ (by simp; omega) (by simp [wrN k (by omega)]) rfl (by simp; rfl)
  · simp at hc
    have : k = vs.length := by omega
    subst this
    rw [List.take_length] at ho
    refine pw_exit ?_
    repeat refine pw_seq ?_
    refine pw_N [] (by rfl) (by rfl) fun K Gc Gh hK hGc hGh X hX0 hX => ?_
    simp -implicitDefEqProofs [hX0, hX]
    try clear hX0 hX X
    intros
    refine hK _ _ _ ?_
    clear hK hGc hGh
    clear K Gc Gh
    refine pw_frz 1 rfl ?_
    repeat refine pw_seq ?_
    exact pw_ret (ret_pure hd (by simp; rfl) (by simp [ho, oneOf]))

/-- A set with a day. -/
def withD (n : Nat) (d : Int) : Nat := if 0 ≤ d ∧ d < 64 then n ||| 2 ^ d.toNat else n
theorem withD_lt (n : Nat) (d : Int) (hn : n < 2 ^ 64) : withD n d < 2 ^ 64 := by
  unfold withD; split
  · exact Nat.or_lt_two_pow hn (Nat.pow_lt_pow_right (by decide) (by omega))
  · exact hn
def ofD (l : List Int) : Nat := l.foldl withD 0
theorem ofD_lt (l : List Int) : ofD l < 2 ^ 64 := by
  have : ∀ (l : List Int) (n : Nat), n < 2 ^ 64 → l.foldl withD n < 2 ^ 64 := by
    intro l; induction l with
    | nil => intro n h; exact h
    | cons d l ih => intro n h; exact ih _ (withD_lt n d h)
  exact this l 0 (by decide)

set_option maxRecDepth 20000 in
theorem there_ok (d : Int) : Pure Tryz.prog 130 [I d] (B (decide (0 ≤ d ∧ d < 64))) := by
  refine pure_enter Tryz.func130 (by rfl) rfl Tryz.ntmps130 (congrArg Array.toList Tryz.results130) (by simp) fun S nx hd => ?_
  repeat refine pw_seq ?_
  refine pw_N [] (by rfl) (by rfl) fun K Gc Gh hK hGc hGh X hX0 hX => ?_
  simp -implicitDefEqProofs [hX0, hX]
  try clear hX0 hX X
  intros
  refine hK _ _ _ ?_
  clear hK hGc hGh
  clear K Gc Gh
  by_cases h1 : 0 ≤ d
  · repeat refine pw_seq ?_
    refine pw_N [(2, 5)] (by rfl) (by rfl) fun K Gc Gh hK hGc hGh X hX0 hX => ?_
    simp -implicitDefEqProofs [hX0, hX, h1]
    try clear hX0 hX X
    intros
    refine hK _ _ _ ?_
    clear hK hGc hGh
    clear K Gc Gh
    repeat refine pw_seq ?_
    exact pw_ret (ret_pure hd (by simp; rfl) (by simp [h1, oneOf]))
  · repeat refine pw_seq ?_
    refine pw_N [(2, 5)] (by rfl) (by rfl) fun K Gc Gh hK hGc hGh X hX0 hX => ?_
    simp -implicitDefEqProofs [hX0, hX, h1, undef]
    try clear hX0 hX X
    intros
    refine hK _ _ _ ?_
    clear hK hGc hGh
    clear K Gc Gh
    repeat refine pw_seq ?_
    exact pw_ret (ret_pure hd (by simp; rfl) (by simp [h1, oneOf]))

theorem shl1 (d : Nat) (h : d < 64) : IntKind.u64.wrap (2 ^ d) = ((2 ^ d : Nat) : Int) := by
  have h2 : (2 : Nat) ^ d < 2 ^ 64 := Nat.pow_lt_pow_right (by decide) h
  have h3 : ((2 ^ d : Nat) : Int) < 2 ^ 64 := by exact_mod_cast h2
  have h4 : (2 : Int) ^ d = ((2 ^ d : Nat) : Int) := by simp
  rw [h4]
  generalize (2 ^ d : Nat) = m at h3 ⊢
  simp only [IntKind.wrap, IntKind.bits, IntKind.signed]
  simp
  omega

set_option maxRecDepth 20000 in
theorem with_ok (n : Nat) (d : Int) (hn : n < 2 ^ 64) : Pure Tryz.prog 107 [U n, I d] (U (withD n d)) := by
  refine pure_enter Tryz.func107 (by rfl) rfl Tryz.ntmps107 (congrArg Array.toList Tryz.results107) (by simp) fun S nx hd => ?_
  repeat refine pw_seq ?_
  refine pw_N [] (by rfl) (by rfl) fun K Gc Gh hK hGc hGh X hX0 hX => ?_
  simp -implicitDefEqProofs [hX0, hX]
  try clear hX0 hX X
  intros
  refine hK _ _ _ ?_
  clear hK hGc hGh
  clear K Gc Gh
  repeat refine pw_seq ?_
  refine pw_N [] (by rfl) (by rfl) fun K Gc Gh hK hGc hGh X hX0 hX => ?_
  simp -implicitDefEqProofs [hX]
  try clear hX0 hX X
  refine hGc _ _ _ _ _ _ _ fun hsuf => ((there_ok d _).mono ?_).v
  rintro _ _ ⟨rfl, rfl⟩
  refine ⟨_, _, rfl, ?_⟩
  clear hGc hGh
  clear Gc Gh
  refine xs_go hsuf (D := []) (by rfl) fun Gc Gh hGc hGh X hX0 hX => ?_
  simp -implicitDefEqProofs [hX0, hX]
  try clear hX0 hX X
  intros
  refine hK _ _ _ ?_
  clear hK hGc hGh
  clear K Gc Gh
  by_cases h : 0 ≤ d ∧ d < 64
  · repeat refine pw_seq ?_
    refine pw_cf (by simp [h]) ?_
    refine pw_skip ?_
    have h1 : ¬ d < 0 := by omega
    have h2 : min d.toNat 64 = d.toNat := by omega
    have h3 := shl1 d.toNat (by omega)
    have h4 : bits BinOp.or IntKind.u64 (n : Int) (2 ^ d.toNat) = ((n ||| 2 ^ d.toNat : Nat) : Int) := by
      have := bits_or_u64_nat n (2 ^ d.toNat) (by omega) (by have : (2 : Nat) ^ d.toNat < 2 ^ 64 := Nat.pow_lt_pow_right (by decide) (by omega); omega)
      simpa using this
    repeat refine pw_seq ?_
    refine pw_N [] (by rfl) (by rfl) fun K Gc Gh hK hGc hGh X hX0 hX => ?_
    simp -implicitDefEqProofs [hX0, hX, h1, h2, IntKind.bits, h3, h4]
    try clear hX0 hX X
    intros
    refine hK _ _ _ ?_
    clear hK hGc hGh
    clear K Gc Gh
    repeat refine pw_seq ?_
    exact pw_ret (ret_pure hd (by simp; rfl) (by simp [withD, h, oneOf]))
  · repeat refine pw_seq ?_
    refine pw_ct (by simp; omega) ?_
    repeat refine pw_seq ?_
    refine pw_N [] (by rfl) (by rfl) fun K Gc Gh hK hGc hGh X hX0 hX => ?_
    simp -implicitDefEqProofs [hX0, hX]
    try clear hX0 hX X
    intros
    refine hK _ _ _ ?_
    clear hK hGc hGh
    clear K Gc Gh
    repeat refine pw_seq ?_
    exact pw_ret (ret_pure hd (by simp; rfl) (by simp [withD, h, oneOf]))

set_option maxRecDepth 20000 in
theorem of_ok (l : List Int) (hl : l.length ≤ 1048576) : Pure Tryz.prog 73 [L l] (U (ofD l)) := by
  refine pure_enter Tryz.func73 (by rfl) rfl Tryz.ntmps73 (congrArg Array.toList Tryz.results73) (by simp) fun S nx hd => ?_
  repeat refine pw_seq ?_
  refine pw_N [] (by rfl) (by rfl) fun K Gc Gh hK hGc hGh X hX0 hX => ?_
  simp -implicitDefEqProofs [hX0, hX]
  try clear hX0 hX X
  intros
  refine hK _ _ _ ?_
  clear hK hGc hGh
  clear K Gc Gh
  repeat refine pw_seq ?_
  refine pw_N [] (by rfl) (by rfl) fun K Gc Gh hK hGc hGh X hX0 hX => ?_
  simp -implicitDefEqProofs [hX0, hX]
  try clear hX0 hX X
  intros
  refine hK _ _ _ ?_
  clear hK hGc hGh
  clear K Gc Gh
  repeat refine pw_seq ?_
  refine pw_N [] (by rfl) (by rfl) fun K Gc Gh hK hGc hGh X hX0 hX => ?_
  simp -implicitDefEqProofs [hX0, hX]
  try clear hX0 hX X
  intros
  refine hK _ _ _ ?_
  clear hK hGc hGh
  clear K Gc Gh
  repeat refine pw_seq ?_
  refine pw_block (pw_loopL (fun s : Nat × Nat => s.1 ≤ l.length ∧ s.2 = ofD (l.take s.1)) (fun (k, n) => [(3, U n), (6, L l), (7, I l.length), (8, I k)]) (fun _ => []) (fun s => l.length - s.1) (0, 0) [] (by simp [ofD]) (by simp) (by simp) ?_)
  rintro ⟨k, n⟩ ⟨hk, ho⟩
  simp only at hk ho ⊢
  repeat refine pw_seq ?_
  refine pw_N [] (by rfl) (by rfl) fun K Gc Gh hK hGc hGh X hX0 hX => ?_
  simp -implicitDefEqProofs [hX0, hX]
  try clear hX0 hX X
  intros
  refine hK _ _ _ ?_
  clear hK hGc hGh
  clear K Gc Gh
  repeat refine pw_seq ?_
  refine pw_cond rfl (fun hc => ?_) (fun hc => ?_)
  · simp at hc
    obtain ⟨d, tl, a1, a2, a3, e0⟩ := el1 rfl l k hc
    refine pw_skip (pw_seq (pw_block ?_))
    repeat refine pw_seq ?_
    refine pw_N [] (by rfl) (by rfl) fun K Gc Gh hK hGc hGh X hX0 hX => ?_
    simp -implicitDefEqProofs [hX0, hX, e0, hc]
    try clear hX0 hX X
    intros
    refine hK _ _ _ ?_
    clear hK hGc hGh
    clear K Gc Gh
    repeat refine pw_seq ?_
    refine pw_N [] (by rfl) (by rfl) fun K Gc Gh hK hGc hGh X hX0 hX => ?_
    simp -implicitDefEqProofs [hX]
    try clear hX0 hX X
    refine hGc _ _ _ _ _ _ _ fun hsuf => ((with_ok n d (by rw [ho]; exact ofD_lt _) _).mono ?_).v
    rintro _ _ ⟨rfl, rfl⟩
    refine ⟨_, _, rfl, ?_⟩
    clear hGc hGh
    clear Gc Gh
    refine xs_go hsuf (D := []) (by rfl) fun Gc Gh hGc hGh X hX0 hX => ?_
    simp -implicitDefEqProofs [hX0, hX]
    try clear hX0 hX X
    intros
    refine hK _ _ _ ?_
    clear hK hGc hGh
    clear K Gc Gh
    repeat refine pw_seq ?_
    refine pw_N [] (by rfl) (by rfl) fun K Gc Gh hK hGc hGh X hX0 hX => ?_
    simp -implicitDefEqProofs [hX0, hX]
    try clear hX0 hX X
    intros
    refine hK _ _ _ ?_
    clear hK hGc hGh
    clear K Gc Gh
    exact again_mk (k + 1, withD n d) [] ⟨hc, by rw [a3, ho]; simp [ofD, List.foldl_append]⟩ (by simp; omega) (by simp [wrN k (by omega)]) rfl (by simp)
  · simp at hc
    have : k = l.length := by omega
    subst this
    rw [List.take_length] at ho
    refine pw_exit ?_
    repeat refine pw_seq ?_
    refine pw_N [] (by rfl) (by rfl) fun K Gc Gh hK hGc hGh X hX0 hX => ?_
    simp -implicitDefEqProofs [hX0, hX]
    try clear hX0 hX X
    intros
    refine hK _ _ _ ?_
    clear hK hGc hGh
    clear K Gc Gh
    repeat refine pw_seq ?_
    exact pw_ret (ret_pure hd (by simp; rfl) (by simp [ho, oneOf]))

def idxN (l : List Nat) (v : Nat) : Int := if v ∈ l then (l.findIdx (· = v) : Nat) else -1

set_option maxRecDepth 20000 in
theorem index_ok (l : List Nat) (v : Nat) (hl : l.length ≤ 1048576) : Pure Tryz.prog 108 [L l, U v] (I (idxN l v)) := by
  refine pure_enter Tryz.func108 (by rfl) rfl Tryz.ntmps108 (congrArg Array.toList Tryz.results108) (by simp) fun S nx hd => ?_
  repeat refine pw_seq ?_
  refine pw_N [] (by rfl) (by rfl) fun K Gc Gh hK hGc hGh X hX0 hX => ?_
  simp -implicitDefEqProofs [hX0, hX]
  try clear hX0 hX X
  intros
  refine hK _ _ _ ?_
  clear hK hGc hGh
  clear K Gc Gh
  repeat refine pw_seq ?_
  refine pw_N [] (by rfl) (by rfl) fun K Gc Gh hK hGc hGh X hX0 hX => ?_
  simp -implicitDefEqProofs [hX0, hX]
  try clear hX0 hX X
  intros
  refine hK _ _ _ ?_
  clear hK hGc hGh
  clear K Gc Gh
  repeat refine pw_seq ?_
  refine pw_block (pw_loopL (fun s : Nat => s ≤ l.length ∧ v ∉ l.take s) (fun k => [(0, L l), (1, U v), (6, L l), (7, I l.length), (8, I k)]) (fun _ => []) (fun s => l.length - s) 0 [] (by simp) (by simp) (by simp) ?_)
  rintro k ⟨hk, ho⟩
  repeat refine pw_seq ?_
  refine pw_N [] (by rfl) (by rfl) fun K Gc Gh hK hGc hGh X hX0 hX => ?_
  simp -implicitDefEqProofs [hX0, hX]
  try clear hX0 hX X
  intros
  refine hK _ _ _ ?_
  clear hK hGc hGh
  clear K Gc Gh
  repeat refine pw_seq ?_
  refine pw_cond rfl (fun hc => ?_) (fun hc => ?_)
  · simp at hc
    obtain ⟨d, tl, a1, a2, a3, e0⟩ := el1 rfl l k hc
    refine pw_skip (pw_seq (pw_block ?_))
    repeat refine pw_seq ?_
    refine pw_N [] (by rfl) (by rfl) fun K Gc Gh hK hGc hGh X hX0 hX => ?_
    simp -implicitDefEqProofs [hX0, hX]
    try clear hX0 hX X
    intros
    refine hK _ _ _ ?_
    clear hK hGc hGh
    clear K Gc Gh
    repeat refine pw_seq ?_
    refine pw_N [] (by rfl) (by rfl) fun K Gc Gh hK hGc hGh X hX0 hX => ?_
    simp -implicitDefEqProofs [hX0, hX, hc, e0]
    try clear hX0 hX X
    intros
    refine hK _ _ _ ?_
    clear hK hGc hGh
    clear K Gc Gh
    repeat refine pw_seq ?_
    refine pw_cond rfl (fun h => ?_) (fun h => ?_)
    · obtain rfl : v = d := by simp at h; omega
      have hres : idxN l v = k := by
        have hm := List.mem_of_getElem? a1
        have : l.findIdx (· = v) = k := by
          rw [List.findIdx_eq (by omega)]
          obtain ⟨q1, q2⟩ := List.getElem?_eq_some_iff.1 a1
          refine ⟨by simp [q2], fun j hj => ?_⟩
          simp only [decide_eq_false_iff_not]
          intro e
          apply ho
          rw [List.mem_take_iff_getElem]
          exact ⟨j, by omega, e⟩
        simp [idxN, hm, this]
      repeat refine pw_seq ?_
      refine pw_N [] (by rfl) (by rfl) fun K Gc Gh hK hGc hGh X hX0 hX => ?_
      simp -implicitDefEqProofs [hX0, hX]
      try clear hX0 hX X
      intros
      refine hK _ _ _ ?_
      clear hK hGc hGh
      clear K Gc Gh
      repeat refine pw_seq ?_
      exact pw_ret (ret_pure hd (by simp; rfl) (by simp [hres, oneOf]))
    · simp at h
      refine pw_skip ?_
      repeat refine pw_seq ?_
      refine pw_N [] (by rfl) (by rfl) fun K Gc Gh hK hGc hGh X hX0 hX => ?_
      simp -implicitDefEqProofs [hX0, hX]
      try clear hX0 hX X
      intros
      refine hK _ _ _ ?_
      clear hK hGc hGh
      clear K Gc Gh
      exact again_mk (k + 1) [] ⟨hc, by rw [a3]; simp; exact ⟨ho, fun e => h (by omega)⟩⟩ (by omega) (by simp [wrN k (by omega)]) rfl (by simp)
  · simp at hc
    have : k = l.length := by omega
    subst this
    rw [List.take_length] at ho
    refine pw_exit ?_
    repeat refine pw_seq ?_
    refine pw_N [] (by rfl) (by rfl) fun K Gc Gh hK hGc hGh X hX0 hX => ?_
    simp -implicitDefEqProofs [hX0, hX]
    try clear hX0 hX X
    intros
    refine hK _ _ _ ?_
    clear hK hGc hGh
    clear K Gc Gh
    repeat refine pw_seq ?_
    exact pw_ret (ret_pure hd (by simp; rfl) (by simp [idxN, ho, oneOf]))

set_option maxRecDepth 20000 in
theorem contains_ok (l : List Nat) (v : Nat) (hl : l.length ≤ 1048576) : Pure Tryz.prog 75 [L l, U v] (B (decide (v ∈ l))) := by
  refine pure_enter Tryz.func75 (by rfl) rfl Tryz.ntmps75 (congrArg Array.toList Tryz.results75) (by simp) fun S nx hd => ?_
  repeat refine pw_seq ?_
  refine pw_N [] (by rfl) (by rfl) fun K Gc Gh hK hGc hGh X hX0 hX => ?_
  simp -implicitDefEqProofs [hX0, hX]
  try clear hX0 hX X
  intros
  refine hK _ _ _ ?_
  clear hK hGc hGh
  clear K Gc Gh
  repeat refine pw_seq ?_
  refine pw_N [] (by rfl) (by rfl) fun K Gc Gh hK hGc hGh X hX0 hX => ?_
  simp -implicitDefEqProofs [hX]
  try clear hX0 hX X
  refine hGc _ _ _ _ _ _ _ fun hsuf => ((index_ok l v hl _).mono ?_).v
  rintro _ _ ⟨rfl, rfl⟩
  refine ⟨_, _, rfl, ?_⟩
  clear hGc hGh
  clear Gc Gh
  refine xs_go hsuf (D := []) (by rfl) fun Gc Gh hGc hGh X hX0 hX => ?_
  simp -implicitDefEqProofs [hX0, hX]
  try clear hX0 hX X
  intros
  refine hK _ _ _ ?_
  clear hK hGc hGh
  clear K Gc Gh
  repeat refine pw_seq ?_
  exact pw_ret (ret_pure hd (by simp; rfl) (by by_cases h : v ∈ l <;> simp [idxN, h, oneOf]))

end Go.Proofs.YtlkcdaeknioanaaGreat.Pv
