/- The laws HeapSorts and HeapOnce: their walks. -/
import Derived.Test.YtpifkibgplnnkaaSt
import Derived.Test.YtpifkibgplnnkaaSu
import Derived.Test.YtpifkibgplnnkaaHi
import Derived.Test.YtpifkibgplnnkaaIc
namespace Go.Proofs.Ytpifkibgplnnkaa.Pv
open Go Hp

set_option maxRecDepth 20000 in
theorem heapSorts_ok (l : List Int) : Pure Try.prog 3 [L l] (B true) := by
  refine pure_enter Try.func3 (by rfl) rfl Try.ntmps3 (congrArg Array.toList Try.results3) (by simp) fun S nx hd => ?_
  repeat refine pw_seq ?_
  refine pw_N [] (by rfl) (by rfl) fun K Gc Gh hK hGc hGh X hX0 hX => ?_
  simp -implicitDefEqProofs [hX0, hX]
  try clear hX0 hX X
  intros
  refine hK _ _ _ ?_
  clear hK hGc hGh
  clear K Gc Gh
  repeat refine pw_seq ?_
  refine pw_N [] (by rfl) (by rfl) fun K Gc Gh hK hGc hGh X hX0 hX => ?_
  simp -implicitDefEqProofs [hX0, hX]
  try clear hX0 hX X
  intros
  refine hK _ _ _ ?_
  clear hK hGc hGh
  clear K Gc Gh
  repeat refine pw_seq ?_
  refine pw_joinK (nx := nx) (fun ys : List Int => ys.length ≤ 60) (fun ys => [(0, L ys)]) (fun _ => S) (fun _ => []) ?_ ?_
  · repeat refine pw_seq ?_
    refine pw_cond rfl (fun hc => ?_) (fun hc => ?_)
    · simp at hc
      have hl : 60 ≤ l.length := by omega
      repeat refine pw_seq ?_
      refine pw_N [] (by rfl) (by rfl) fun K Gc Gh hK hGc hGh X hX0 hX => ?_
      simp -implicitDefEqProofs [hX0, hX, hl]
      try clear hX0 hX X
      intros
      refine hK _ _ _ ?_
      clear hK hGc hGh
      clear K Gc Gh
      refine at_mk (l.take 60) [] (by simp; omega) ?_ rfl (by simp)
      have e := flat_take Enc.enc 1 (fun x : Int => rfl) l 60
      simp at e
      simp [e, Nat.min_eq_left hl]
    · refine pw_skip ?_
      exact at_mk l [] (by simp at hc; omega) (by simp) rfl (by simp)
  intro ys hy
  simp only at hy ⊢
  have hsl := sortI_len ys
  repeat refine pw_seq ?_
  refine pw_N [(5, 13)] (by rfl) (by rfl) fun K Gc Gh hK hGc hGh X hX0 hX => ?_
  simp -implicitDefEqProofs [hX]
  try clear hX0 hX X
  refine hGc _ _ _ _ _ _ _ fun hsuf => ((sortedH_ok ys (by omega) _).mono ?_).v
  rintro _ _ ⟨rfl, rfl⟩
  refine ⟨_, _, rfl, ?_⟩
  clear hGc hGh
  clear Gc Gh
  refine xs_go hsuf (D := [(5, 13)]) (by rfl) fun Gc Gh hGc hGh X hX0 hX => ?_
  simp -implicitDefEqProofs [hX]
  try clear hX0 hX X
  refine hGc _ _ _ _ _ _ _ fun hsuf => ((sortedR_ok ys (by omega) _).mono ?_).v
  rintro _ _ ⟨rfl, rfl⟩
  refine ⟨_, _, rfl, ?_⟩
  clear hGc hGh
  clear Gc Gh
  refine xs_go hsuf (D := [(5, 13)]) (by rfl) fun Gc Gh hGc hGh X hX0 hX => ?_
  simp -implicitDefEqProofs [hX]
  try clear hX0 hX X
  refine hGc _ _ _ _ _ _ _ fun hsuf => ((same_ok _ _ (by omega) (by omega) _).mono ?_).v
  rintro _ _ ⟨rfl, rfl⟩
  refine ⟨_, _, rfl, ?_⟩
  clear hGc hGh
  clear Gc Gh
  refine xs_go hsuf (D := [(5, 13)]) (by rfl) fun Gc Gh hGc hGh X hX0 hX => ?_
  simp -implicitDefEqProofs [hX]
  try clear hX0 hX X
  refine hGc _ _ _ _ _ _ _ fun hsuf => ((lives_ok _).mono ?_).v
  rintro _ _ ⟨rfl, rfl⟩
  refine ⟨_, _, rfl, ?_⟩
  clear hGc hGh
  clear Gc Gh
  refine xs_go hsuf (D := [(5, 13)]) (by rfl) fun Gc Gh hGc hGh X hX0 hX => ?_
  simp -implicitDefEqProofs [hX0, hX]
  try clear hX0 hX X
  intros
  refine hK _ _ _ ?_
  clear hK hGc hGh
  clear K Gc Gh
  repeat refine pw_seq ?_
  exact pw_ret (ret_pure hd rfl rfl)

theorem splice_bool (l : List Bool) (k : Nat) (v : Bool) (h : k < l.length) : splice (l.flatMap Enc.enc) k [B v] = (l.set k v).flatMap Enc.enc := by
  have e : ∀ l : List Bool, l.flatMap Enc.enc = l.map B := fun l => by induction l <;> simp_all
  rw [e, e, splice, List.map_set, List.set_eq_take_append_cons_drop, if_pos (by simpa using h)]
  simp
theorem zeros_bool (n : Nat) : zerosP n (.bool false) = (List.replicate n false).flatMap Enc.enc := by
  induction n with
  | zero => simp
  | succ n ih => rw [zerosP_succ', ih, List.replicate_succ]; simp [zeroCellsOf, Value.cells]
/-- Which places the first k ones are. -/
def seenTo (s : List Int) (n k : Nat) : List Bool := (List.range n).map fun (i : Nat) => decide ((i : Int) ∈ s.take k)
theorem seenTo_zero (s : List Int) (n : Nat) : seenTo s n 0 = List.replicate n false := by
  apply List.ext_getElem
  · simp [seenTo]
  · intro i h1 h2; simp [seenTo]
theorem seenTo_len (s : List Int) (n k : Nat) : (seenTo s n k).length = n := by simp [seenTo]
theorem seenTo_succ {s : List Int} {n k p : Nat} (h : s.take (k + 1) = s.take k ++ [(p : Int)]) : (seenTo s n k).set p true = seenTo s n (k + 1) := by
  apply List.ext_getElem
  · simp [seenTo]
  · intro i h1 h2
    rw [List.getElem_set]
    simp only [seenTo, List.getElem_map, List.getElem_range, h, List.mem_append, List.mem_singleton]
    split
    · rename_i e; subst e; simp
    · rename_i e
      have : ¬ (i : Int) = p := by omega
      simp [this]
theorem seenTo_at {s : List Int} (hn : s.Nodup) {n k p : Nat} (h : s[k]? = some (p : Int)) (hp : p < n) : (seenTo s n k)[p]? = some false := by
  have : ¬ (p : Int) ∈ s.take k := by
    intro hm
    obtain ⟨j, hj⟩ := List.mem_iff_getElem?.1 hm
    rw [List.getElem?_take] at hj
    split at hj
    · rename_i hjk
      obtain ⟨h1, e1⟩ := List.getElem?_eq_some_iff.1 hj
      obtain ⟨h2, e2⟩ := List.getElem?_eq_some_iff.1 h
      exact List.pairwise_iff_getElem.1 hn j k h1 h2 hjk (e1.trans e2.symm)
    · cases hj
  simp [seenTo, hp, this]

set_option maxRecDepth 20000 in
set_option maxHeartbeats 800000 in
theorem heapOnce_ok (l : List Int) : Pure Try.prog 4 [L l] (B true) := by
  refine pure_enter Try.func4 (by rfl) rfl Try.ntmps4 (congrArg Array.toList Try.results4) (by simp) fun S nx hd => ?_
  repeat refine pw_seq ?_
  refine pw_N [] (by rfl) (by rfl) fun K Gc Gh hK hGc hGh X hX0 hX => ?_
  simp -implicitDefEqProofs [hX0, hX]
  try clear hX0 hX X
  intros
  refine hK _ _ _ ?_
  clear hK hGc hGh
  clear K Gc Gh
  repeat refine pw_seq ?_
  refine pw_N [] (by rfl) (by rfl) fun K Gc Gh hK hGc hGh X hX0 hX => ?_
  simp -implicitDefEqProofs [hX0, hX]
  try clear hX0 hX X
  intros
  refine hK _ _ _ ?_
  clear hK hGc hGh
  clear K Gc Gh
  repeat refine pw_seq ?_
  refine pw_joinK (nx := nx) (fun ys : List Int => ys.length ≤ 60) (fun ys => [(0, L ys)]) (fun _ => S) (fun _ => []) ?_ ?_
  · repeat refine pw_seq ?_
    refine pw_cond rfl (fun hc => ?_) (fun hc => ?_)
    · simp at hc
      have hl : 60 ≤ l.length := by omega
      repeat refine pw_seq ?_
      refine pw_N [] (by rfl) (by rfl) fun K Gc Gh hK hGc hGh X hX0 hX => ?_
      simp -implicitDefEqProofs [hX0, hX, hl]
      try clear hX0 hX X
      intros
      refine hK _ _ _ ?_
      clear hK hGc hGh
      clear K Gc Gh
      refine at_mk (l.take 60) [] (by simp; omega) ?_ rfl (by simp)
      have e := flat_take Enc.enc 1 (fun x : Int => rfl) l 60
      simp at e
      simp [e, Nat.min_eq_left hl]
    · refine pw_skip ?_
      exact at_mk l [] (by simp at hc; omega) (by simp) rfl (by simp)
  intro ys hy
  simp only at hy ⊢
  have hsl := sortI_len ys
  repeat refine pw_seq ?_
  refine pw_N [] (by rfl) (by rfl) fun K Gc Gh hK hGc hGh X hX0 hX => ?_
  simp -implicitDefEqProofs [hX]
  try clear hX0 hX X
  refine hGc _ _ _ _ _ _ _ fun hsuf => ((sortedH_ok ys (by omega) _).mono ?_).v
  rintro _ _ ⟨rfl, rfl⟩
  refine ⟨_, _, rfl, ?_⟩
  clear hGc hGh
  clear Gc Gh
  refine xs_go hsuf (D := []) (by rfl) fun Gc Gh hGc hGh X hX0 hX => ?_
  simp -implicitDefEqProofs [hX0, hX]
  try clear hX0 hX X
  intros
  refine hK _ _ _ ?_
  clear hK hGc hGh
  clear K Gc Gh
  have hnd := sortI_nodup ys
  have hmem : ∀ z ∈ sortI ys, 0 ≤ z ∧ z < ys.length := fun z h => sortI_mem h
  have hadj := fun k a b h1 h2 => sortI_adj (l := ys) (k := k) (a := a) (b := b) h1 h2
  generalize sortI ys = ps at hsl hnd hmem hadj ⊢
  repeat refine pw_seq ?_
  refine pw_N [] (by rfl) (by rfl) fun K Gc Gh hK hGc hGh X hX0 hX => ?_
  simp -implicitDefEqProofs [hX0, hX, hsl]
  try clear hX0 hX X
  intros
  refine hK _ _ _ ?_
  clear hK hGc hGh
  clear K Gc Gh
  repeat refine pw_seq ?_
  refine pw_cf rfl ?_
  refine pw_skip ?_
  repeat refine pw_seq ?_
  refine pw_N [] (by rfl) (by rfl) fun K Gc Gh hK hGc hGh X hX0 hX => ?_
  simp -implicitDefEqProofs [hX0, hX, hsl]
  try clear hX0 hX X
  refine ⟨by omega, fun v0 => ?_⟩
  intros
  refine hK _ _ _ ?_
  clear hK hGc hGh
  clear K Gc Gh
  repeat refine pw_seq ?_
  refine pw_N [] (by rfl) (by rfl) fun K Gc Gh hK hGc hGh X hX0 hX => ?_
  simp -implicitDefEqProofs [hX0, hX]
  try clear hX0 hX X
  intros
  refine hK _ _ _ ?_
  clear hK hGc hGh
  clear K Gc Gh
  repeat refine pw_seq ?_
  refine pw_block (pw_loopL (fun s : Nat × Nat => s.1 ≤ ys.length) (fun (k, v) => [(0, L ys), (3, L ps), (4, .sl nx v 1 0 ys.length), (5, I k)]) (fun (k, v) => [.cells v 4 ((seenTo ps ys.length k).flatMap Enc.enc)]) (fun s => ys.length - s.1) (0, v0) [] (by simp) (by simp) (by simp [seenTo_zero, zeros_bool]) ?_)
  rintro ⟨k, v⟩ hk
  simp only at hk ⊢
  repeat refine pw_seq ?_
  refine pw_N [] (by rfl) (by rfl) fun K Gc Gh hK hGc hGh X hX0 hX => ?_
  simp -implicitDefEqProofs [hX0, hX, hsl]
  try clear hX0 hX X
  intros
  refine hK _ _ _ ?_
  clear hK hGc hGh
  clear K Gc Gh
  repeat refine pw_seq ?_
  refine pw_cond rfl (fun hc => ?_) (fun hc => ?_)
  · simp at hc
    obtain ⟨w, tl, a1, a2, a3, e0⟩ := el1 rfl ps k (by omega)
    obtain ⟨q1, q2⟩ := hmem w (List.mem_of_getElem? a1)
    obtain ⟨p, rfl⟩ : ∃ p : Nat, w = p := ⟨w.toNat, by omega⟩
    have hp : p < ys.length := by omega
    have hsn := seenTo_len ps ys.length k
    have hst := seenTo_at hnd a1 hp
    obtain ⟨b, tb, b1, b2, b3, eb⟩ := el1 rfl (seenTo ps ys.length k) p (by omega)
    rw [hst] at b1; cases b1
    refine pw_skip (pw_seq (pw_block ?_))
    have hpn : ¬ (p : Int) < 0 := by omega
    have hpn2 : ¬ ys.length ≤ p := by omega
    repeat refine pw_seq ?_
    refine pw_N [(5, 32), (14, 41)] (by rfl) (by rfl) fun K Gc Gh hK hGc hGh X hX0 hX => ?_
    simp -implicitDefEqProofs [hX0, hX, hc, e0, hsl, hp, eb, hpn, hpn2]
    try clear hX0 hX X
    intros
    refine hK _ _ _ ?_
    clear hK hGc hGh
    clear K Gc Gh
    repeat refine pw_seq ?_
    refine pw_cf rfl ?_
    refine pw_skip ?_
    have hsp := splice_bool (seenTo ps ys.length k) p true (by omega)
    rw [seenTo_succ a3] at hsp
    have hsn1 := seenTo_len ps ys.length (k + 1)
    repeat refine pw_seq ?_
    refine pw_N [] (by rfl) (by rfl) fun K Gc Gh hK hGc hGh X hX0 hX => ?_
    simp -implicitDefEqProofs [hX0, hX, hc, e0, hsl, hsn, hp, hsp]
    try clear hX0 hX X
    refine ⟨by omega, ?_⟩
    intros
    refine hK _ _ _ ?_
    clear hK hGc hGh
    clear K Gc Gh
    by_cases h0 : 0 < k
    · obtain ⟨j, rfl⟩ : ∃ j, k = j + 1 := ⟨k - 1, by omega⟩
      obtain ⟨w0, tl0, c1, c2, c3, e1⟩ := el1 rfl ps j (by omega)
      obtain ⟨r1, r2⟩ := hmem w0 (List.mem_of_getElem? c1)
      obtain ⟨p0, rfl⟩ : ∃ p0 : Nat, w0 = p0 := ⟨w0.toNat, by omega⟩
      have hp0 : p0 < ys.length := by omega
      obtain ⟨u, tu, u1, u2, u3, f1⟩ := el1 rfl ys p (by omega)
      obtain ⟨z, tz, z1, z2, z3, f2⟩ := el1 rfl ys p0 (by omega)
      obtain ⟨g1, g2⟩ := hadj j _ _ c1 a1
      have wj : IntKind.i64.wrap (j : Int) = j := wr _ (by omega) (by omega)
      have w2 : IntKind.i64.wrap ((j : Int) + 1 + 1) = (j : Int) + 1 + 1 := wr _ (by omega) (by omega)
      have hj1 : (j : Int) < ys.length := by omega
      have hj2 : (j : Int) + 1 < ys.length := by omega
      have hj3 : 0 ≤ (j : Int) + 1 := by omega
      have hj4 : (0 : Int) < (j : Int) + 1 := by omega
      simp [List.getD_eq_getElem?_getD, u1, z1] at g1 g2
      by_cases h1 : z = u
      · subst h1
        have g3 : ¬ p < p0 := by have := g2 rfl; omega
        repeat refine pw_seq ?_
        refine pw_Y none (Row.pures [0, 1, 2, 3, 4, 5, 6, 7, 8, 9, 10, 11, 12, 13, 14, 15, 16, 17, 18, 19, 20, 21, 22, 23, 24, 25, 26, 27, 28, 29, 30, 31, 32, 33, 34, 35, 36, 37, 38, 39, 40, 41, 42, 43, 44, 45, 46, 47, 48, 49] .done) mixed (by rfl) (by rfl) (by rfl) fun K Gp Gc Gh hK hGp hGc hGh X hX0 hX1 hX2 hX => ?_
        simp -implicitDefEqProofs [hX0, hX2, wj, e0, e1, f1, f2, hj1, hj2, hj3, hj4, g3, hsl, hp, hp0]
        try clear hX0 hX1 hX2 hX X
        intros
        refine hK _ _ _ ?_
        clear hK hGp hGc hGh
        clear K Gp Gc Gh
        repeat refine pw_seq ?_
        refine pw_cf rfl ?_
        refine pw_skip ?_
        repeat refine pw_seq ?_
        refine pw_N [] (by rfl) (by rfl) fun K Gc Gh hK hGc hGh X hX0 hX => ?_
        simp -implicitDefEqProofs [hX0, hX]
        try clear hX0 hX X
        intros
        refine hK _ _ _ ?_
        clear hK hGc hGh
        clear K Gc Gh
        exact again_mk (j + 1 + 1, v) [] hc (by simp; omega) (by simp [w2]) rfl (by simp)
      · have g3 : ¬ u < z := by omega
        repeat refine pw_seq ?_
        refine pw_Y none (Row.pures [0, 1, 2, 3, 4, 5, 6, 7, 8, 9, 10, 11, 12, 13, 14, 15, 16, 17, 18, 19, 20, 21, 22, 23, 24, 25, 26, 27, 28, 29, 30, 31, 32, 33, 34, 35, 36, 37, 38, 39, 40, 41, 42, 43, 44, 45, 46, 47, 48, 49] .done) mixed (by rfl) (by rfl) (by rfl) fun K Gp Gc Gh hK hGp hGc hGh X hX0 hX1 hX2 hX => ?_
        simp -implicitDefEqProofs [hX0, hX2, wj, e0, e1, f1, f2, hj1, hj2, hj3, hj4, h1, g3, hsl, hp, hp0, undef]
        try clear hX0 hX1 hX2 hX X
        intros
        refine hK _ _ _ ?_
        clear hK hGp hGc hGh
        clear K Gp Gc Gh
        repeat refine pw_seq ?_
        refine pw_cf rfl ?_
        refine pw_skip ?_
        repeat refine pw_seq ?_
        refine pw_N [] (by rfl) (by rfl) fun K Gc Gh hK hGc hGh X hX0 hX => ?_
        simp -implicitDefEqProofs [hX0, hX]
        try clear hX0 hX X
        intros
        refine hK _ _ _ ?_
        clear hK hGc hGh
        clear K Gc Gh
        exact again_mk (j + 1 + 1, v) [] hc (by simp; omega) (by simp [w2]) rfl (by simp)
    · obtain rfl : k = 0 := by omega
      clear hadj hmem hnd e0 eb hsn hsp hst
      repeat refine pw_seq ?_
      refine pw_Y none (Row.pures [0, 1, 2, 3, 4, 5, 6, 7, 8, 9, 10, 11, 12, 13, 14, 15, 16, 17, 18, 19, 20, 21, 22, 23, 24, 25, 26, 27, 28, 29, 30, 31, 32, 33, 34, 35, 36, 37, 38, 39, 40, 41, 42, 43, 44, 45, 46, 47, 48, 49] .done) mixed (by rfl) (by rfl) (by rfl) fun K Gp Gc Gh hK hGp hGc hGh X hX0 hX1 hX2 hX => ?_
      simp -implicitDefEqProofs [hX0, hX2, undef]
      try clear hX0 hX1 hX2 hX X
      intros
      refine hK _ _ _ ?_
      clear hK hGp hGc hGh
      clear K Gp Gc Gh
      repeat refine pw_seq ?_
      refine pw_cf rfl ?_
      refine pw_skip ?_
      repeat refine pw_seq ?_
      refine pw_N [] (by rfl) (by rfl) fun K Gc Gh hK hGc hGh X hX0 hX => ?_
      simp -implicitDefEqProofs [hX0, hX]
      try clear hX0 hX X
      intros
      refine hK _ _ _ ?_
      clear hK hGc hGh
      clear K Gc Gh
      exact again_mk (0 + 1, v) [] hc (by simp; omega) (by simp; exact wr _ (by omega) (by omega)) rfl (by simp)
  · simp at hc
    refine pw_exit ?_
    repeat refine pw_seq ?_
    refine pw_N [] (by rfl) (by rfl) fun K Gc Gh hK hGc hGh X hX0 hX => ?_
    simp -implicitDefEqProofs [hX]
    try clear hX0 hX X
    refine hGc _ _ _ _ _ _ _ fun hsuf => ((lives_ok _).mono ?_).v
    rintro _ _ ⟨rfl, rfl⟩
    refine ⟨_, _, rfl, ?_⟩
    clear hGc hGh
    clear Gc Gh
    refine xs_go hsuf (D := []) (by rfl) fun Gc Gh hGc hGh X hX0 hX => ?_
    simp -implicitDefEqProofs [hX0, hX]
    try clear hX0 hX X
    intros
    refine hK _ _ _ ?_
    clear hK hGc hGh
    clear K Gc Gh
    repeat refine pw_seq ?_
    exact pw_ret (ret_pure hd rfl rfl)

end Go.Proofs.Ytpifkibgplnnkaa.Pv
