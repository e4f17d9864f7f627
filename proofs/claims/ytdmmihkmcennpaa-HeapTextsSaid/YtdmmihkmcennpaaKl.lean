/- The law HeapTexts. -/
import Derived.Test.YtdmmihkmcennpaaKh
import Derived.Test.YtdmmihkmcennpaaHi
namespace Go.Proofs.Ytdmmihkmcennpaa.Ps
open Go Hp Pv

@[simp] theorem put3_zero (a b c : Ob) (l : List Ob) (o : Ob × Ob × Ob) : put3 (a :: b :: c :: l) 0 o = o.1 :: o.2.1 :: o.2.2 :: l := rfl

theorem HX.sorted {o : Ob × Ob × Ob} {a hv mv : Nat} {r : Its ByteArray} (h : HX o a hv mv r) : SortedI r := by
  obtain ⟨_, _, _, h⟩ := h (fun i => if i = a then o.1 else if i = a + 1 then o.2.1 else o.2.2) (by simp) (by simp) (by simp)
  exact h

theorem insI_mem {x y : Int × ByteArray} {r : Its ByteArray} : y ∈ insI x r ↔ y = x ∨ y ∈ r := by
  rw [(insI_perm x r).mem_iff]; simp
theorem hasI_false {id : Int} {r : Its ByteArray} (h : ∀ x ∈ r, x.1 ≠ id) : hasI id r = false := by
  simp only [hasI, List.any_eq_false]; intro x hx; simpa using h x hx

theorem ltB_nil (s : ByteArray) : ltB s ⟨#[]⟩ = false := by
  show Op.bytesLess _ (ByteArray.toList ⟨#[]⟩) = false
  rw [Lib.toList_data ⟨#[]⟩]
  cases s.toList <;> rfl

set_option maxRecDepth 10000 in
theorem heapTexts_ok (l : List ByteArray) : Pv.Pure Try.prog 3 [L l] (B true) := by
  refine pure_enter Try.func3 (by rfl) rfl Try.ntmps3 (congrArg Array.toList Try.results3) (by simp) fun S nx hd => ?_
  repeat refine pw_seq ?_
  refine pw_N [] (by rfl) (by rfl) fun K Gc Gh hK hGc hGh X hX0 hX => ?_
  simp -implicitDefEqProofs [hX0, hX]
  try clear hX0 hX X
  intros
  refine hK _ _ _ ?_
  clear hK hGc hGh
  clear K Gc Gh
  repeat refine pw_seq ?_
  refine pw_N [] (by rfl) (by rfl) fun K Gc Gh hK hGc hGh X hX0 hX => ?_
  simp -implicitDefEqProofs [hX0, hX]
  try clear hX0 hX X
  refine hGc _ _ _ _ _ _ _ fun hsuf => (hxNew.mono ?_)
  rintro p _ ⟨hv, mv, o1, rfl, m1, rfl⟩
  refine ⟨_, _, rfl, ?_⟩
  clear hGc hGh
  clear Gc Gh
  refine xs_go hsuf (D := []) (by rfl) fun Gc Gh hGc hGh X hX0 hX => ?_
  simp -implicitDefEqProofs [hX0, hX]
  clear hX0 hX X
  intros
  refine hK _ _ _ ?_
  clear hK hGc hGh
  clear K Gc Gh
  repeat refine pw_seq ?_
  refine pw_N [] (by rfl) (by rfl) fun K Gc Gh hK hGc hGh X hX0 hX => ?_
  simp -implicitDefEqProofs [hX0, hX]
  try clear hX0 hX X
  intros
  refine hK _ _ _ ?_
  clear hK hGc hGh
  clear K Gc Gh
  repeat refine pw_seq ?_
  refine pw_cf rfl ?_
  refine pw_skip ?_
  repeat refine pw_seq ?_
  refine pw_N [] (by rfl) (by rfl) fun K Gc Gh hK hGc hGh X hX0 hX => ?_
  simp -implicitDefEqProofs [hX0, hX]
  try clear hX0 hX X
  intros
  refine hK _ _ _ ?_
  clear hK hGc hGh
  clear K Gc Gh
  repeat refine pw_seq ?_
  refine pw_joinK (nx := nx) (fun ys : List ByteArray => ys.length ≤ 20) (fun ys => [(0, L ys), (3, .ptr (nx + 1) hv 0)]) (fun _ => S) (fun _ => [o1.1, o1.2.1, o1.2.2]) ?_ ?_
  · repeat refine pw_seq ?_
    refine pw_cond rfl (fun hc => ?_) (fun hc => ?_)
    · simp at hc
      have hl : 20 ≤ l.length := by omega
      repeat refine pw_seq ?_
      refine pw_N [] (by rfl) (by rfl) fun K Gc Gh hK hGc hGh X hX0 hX => ?_
      simp -implicitDefEqProofs [hX0, hX, hl]
      try clear hX0 hX X
      intros
      refine hK _ _ _ ?_
      clear hK hGc hGh
      clear K Gc Gh
      refine at_mk (l.take 20) [] (by simp; omega) ?_ rfl (by simp)
      have e := flat_take Enc.enc 1 (fun x : ByteArray => rfl) l 20
      simp at e
      simp [e, Nat.min_eq_left hl]
    · refine pw_skip ?_
      exact at_mk l [] (by simp at hc; omega) (by simp) rfl (by simp)
  intro ys hy
  simp only at hy ⊢
  repeat refine pw_seq ?_
  refine pw_N [] (by rfl) (by rfl) fun K Gc Gh hK hGc hGh X hX0 hX => ?_
  simp -implicitDefEqProofs [hX0, hX]
  try clear hX0 hX X
  intros
  refine hK _ _ _ ?_
  clear hK hGc hGh
  clear K Gc Gh
  repeat refine pw_seq ?_
  refine pw_joinK (nx := nx) (fun s : Its ByteArray × Ob × Ob × Ob => s.1.length = ys.length ∧ (∀ x ∈ s.1, 0 ≤ x.1) ∧ HX s.2 nx hv mv s.1) (fun (r, o) => [(0, L ys), (3, .ptr (nx + 1) hv 0)]) (fun _ => S) (fun (r, o) => [o.1, o.2.1, o.2.2]) ?_ ?_
  · refine pw_block (pw_loopL (fun s : Nat × Its ByteArray × Ob × Ob × Ob => s.1 ≤ ys.length ∧ s.2.1.length = s.1 ∧ (∀ x ∈ s.2.1, 0 ≤ x.1 ∧ x.1 < s.1) ∧ HX s.2.2 nx hv mv s.2.1) (fun (k, r, o) => [(0, L ys), (3, .ptr (nx + 1) hv 0), (4, I k)]) (fun (k, r, o) => [o.1, o.2.1, o.2.2]) (fun s => ys.length - s.1) (0, [], o1) [] ⟨by simp, rfl, by simp, m1⟩ (by simp) (by simp) ?_)
    rintro ⟨k, r, o⟩ ⟨hk, hr, hid, hm⟩
    simp only at hk hr hid hm ⊢
    repeat refine pw_seq ?_
    refine pw_N [] (by rfl) (by rfl) fun K Gc Gh hK hGc hGh X hX0 hX => ?_
    simp -implicitDefEqProofs [hX0, hX]
    try clear hX0 hX X
    intros
    refine hK _ _ _ ?_
    clear hK hGc hGh
    clear K Gc Gh
    repeat refine pw_seq ?_
    refine pw_cond rfl (fun hc => ?_) (fun hc => ?_)
    · simp at hc
      obtain ⟨s, tl, a1, a2, a3, e0⟩ := el1 rfl ys k hc
      have hno : hasI (k : Int) r = false := hasI_false fun x hx e => by have := hid x hx; omega
      refine pw_skip (pw_seq (pw_block ?_))
      repeat refine pw_seq ?_
      refine pw_N [] (by rfl) (by rfl) fun K Gc Gh hK hGc hGh X hX0 hX => ?_
      simp -implicitDefEqProofs [hX0, hX, hc, e0]
      try clear hX0 hX X
      intros
      refine hK _ _ _ ?_
      clear hK hGc hGh
      clear K Gc Gh
      repeat refine pw_seq ?_
      refine pw_N [] (by rfl) (by rfl) fun K Gc Gh hK hGc hGh X hX0 hX => ?_
      simp -implicitDefEqProofs [hX0, hX]
      try clear hX0 hX X
      intros
      refine hK _ _ _ ?_
      clear hK hGc hGh
      clear K Gc Gh
      repeat refine pw_seq ?_
      refine pw_joinK (nx := nx) (fun _ : ByteArray => True) (fun s => [(0, L ys), (3, .ptr (nx + 1) hv 0), (4, I k), (5, T s)]) (fun _ => S) (fun _ => [o.1, o.2.1, o.2.2]) ?_ ?_
      · repeat refine pw_seq ?_
        refine pw_cond rfl (fun h3 => ?_) (fun h3 => ?_)
        · simp at h3
          have h3' : 3 ≤ s.size := by omega
          repeat refine pw_seq ?_
          refine pw_N [] (by rfl) (by rfl) fun K Gc Gh hK hGc hGh X hX0 hX => ?_
          simp -implicitDefEqProofs [hX0, hX, h3']
          try clear hX0 hX X
          intros
          refine hK _ _ _ ?_
          clear hK hGc hGh
          clear K Gc Gh
          exact at_mk (s.extract 0 3) [] trivial (by simp) rfl (by simp)
        · refine pw_skip ?_
          exact at_mk s [] trivial (by simp) rfl (by simp)
      intro s _
      repeat refine pw_seq ?_
      refine pw_N [] (by rfl) (by rfl) fun K Gc Gh hK hGc hGh X hX0 hX => ?_
      simp -implicitDefEqProofs [hX0, hX]
      try clear hX0 hX X
      refine hGc _ _ _ _ _ _ _ fun hsuf => ((hxPut (j := 0) hm rfl rfl rfl (k : Int) s (by omega)).mono ?_)
      rintro p _ ⟨rfl, o2, m2, rfl⟩
      refine ⟨_, _, rfl, ?_⟩
      rw [hno] at m2
      clear hGc hGh
      clear Gc Gh
      refine xs_go hsuf (D := []) (by rfl) fun Gc Gh hGc hGh X hX0 hX => ?_
      simp -implicitDefEqProofs [hX0, hX]
      clear hX0 hX X
      intros
      refine hK _ _ _ ?_
      clear hK hGc hGh
      clear K Gc Gh
      repeat refine pw_seq ?_
      refine pw_N [] (by rfl) (by rfl) fun K Gc Gh hK hGc hGh X hX0 hX => ?_
      simp -implicitDefEqProofs [hX0, hX]
      try clear hX0 hX X
      intros
      refine hK _ _ _ ?_
      clear hK hGc hGh
      clear K Gc Gh
      exact again_mk (k + 1, insI (k, s) r, o2) [] ⟨hc, by simp [(insI_perm _ _).length_eq, hr], fun x hx => by
        rcases insI_mem.1 hx with rfl | hx
        · simp; omega
        · have := hid x hx; simp; omega, m2⟩ (by simp; omega) (by simp [wrN k (by omega)]) rfl (by simp)
    · simp at hc
      refine pw_exit ?_
      exact at_mk (r, o) [] ⟨by simp; omega, fun x hx => (hid x hx).1, hm⟩ (by simp) rfl (by simp)
  rintro ⟨r, o1⟩ ⟨hr, hid, m1⟩
  simp only at hr hid m1 ⊢
  have hs := m1.sorted
  repeat refine pw_seq ?_
  refine pw_N [] (by rfl) (by rfl) fun K Gc Gh hK hGc hGh X hX0 hX => ?_
  simp -implicitDefEqProofs [hX0, hX]
  try clear hX0 hX X
  intros
  refine hK _ _ _ ?_
  clear hK hGc hGh
  clear K Gc Gh
  repeat refine pw_seq ?_
  refine pw_N [] (by rfl) (by rfl) fun K Gc Gh hK hGc hGh X hX0 hX => ?_
  simp -implicitDefEqProofs [hX0, hX]
  try clear hX0 hX X
  intros
  refine hK _ _ _ ?_
  clear hK hGc hGh
  clear K Gc Gh
  repeat refine pw_seq ?_
  refine pw_N [] (by rfl) (by rfl) fun K Gc Gh hK hGc hGh X hX0 hX => ?_
  simp -implicitDefEqProofs [hX0, hX]
  try clear hX0 hX X
  intros
  refine hK _ _ _ ?_
  clear hK hGc hGh
  clear K Gc Gh
  repeat refine pw_seq ?_
  refine pw_block (pw_loopL (fun s : Nat × (Int × ByteArray) × Ob × Ob × Ob => s.1 ≤ r.length ∧ (∀ y ∈ r.drop s.1, ltB y.2 s.2.1.2 = false ∧ (y.2 = s.2.1.2 → ¬ y.1 < s.2.1.1)) ∧ HX s.2.2 nx hv mv (r.drop s.1)) (fun (k, q, o) => [(0, L ys), (3, .ptr (nx + 1) hv 0), (6, T q.2), (7, I q.1), (8, I k)]) (fun (k, q, o) => [o.1, o.2.1, o.2.2]) (fun s => r.length - s.1) (0, (-1, ⟨#[]⟩), o1) [] ⟨by simp, fun y hy => ⟨ltB_nil _, fun _ => by have := hid y (by simpa using hy); simp; omega⟩, m1⟩ (by simp) (by simp) ?_)
  rintro ⟨k, q, o⟩ ⟨hk, hin, hm⟩
  simp only at hk hin hm ⊢
  repeat refine pw_seq ?_
  refine pw_N [] (by rfl) (by rfl) fun K Gc Gh hK hGc hGh X hX0 hX => ?_
  simp -implicitDefEqProofs [hX0, hX, hr.symm]
  try clear hX0 hX X
  intros
  refine hK _ _ _ ?_
  clear hK hGc hGh
  clear K Gc Gh
  repeat refine pw_seq ?_
  refine pw_cond rfl (fun hc => ?_) (fun hc => ?_)
  · simp at hc
    obtain ⟨y, hy⟩ : ∃ y, r[k]? = some y := ⟨_, List.getElem?_eq_getElem hc⟩
    have hdr : r.drop k = y :: r.drop (k + 1) := by
      rw [List.drop_eq_getElem_cons hc]; congr 1
      rw [List.getElem?_eq_getElem hc] at hy; exact Option.some.inj hy
    refine pw_skip (pw_seq (pw_block ?_))
    repeat refine pw_seq ?_
    refine pw_N [] (by rfl) (by rfl) fun K Gc Gh hK hGc hGh X hX0 hX => ?_
    simp -implicitDefEqProofs [hX0, hX]
    try clear hX0 hX X
    refine hGc _ _ _ _ _ _ _ fun hsuf => ((hxTake (j := 0) hm rfl rfl rfl).mono ?_)
    rintro p _ ⟨rfl, o2, m2, rfl⟩
    refine ⟨_, _, rfl, ?_⟩
    rw [hdr] at m2 hin ⊢
    have hin2 : ∀ z ∈ r.drop (k + 1), ltB z.2 y.2 = false ∧ (z.2 = y.2 → ¬ z.1 < y.1) := by
      intro z hz
      have : SortedI (y :: r.drop (k + 1)) := hdr ▸ List.Pairwise.sublist (List.drop_sublist k r) hs
      have h := (List.pairwise_cons.1 this).1 z hz
      unfold ilt il at h
      by_cases e : y.2 = z.2
      · rw [if_pos e] at h
        refine ⟨by rw [e]; exact ltB_str.irr _, fun _ => ?_⟩
        simp at h; omega
      · rw [if_neg e] at h
        refine ⟨?_, fun q => absurd q.symm e⟩
        cases hq : ltB z.2 y.2
        · rfl
        · have := ltB_str.tr _ _ _ h hq
          rw [ltB_str.irr] at this; cases this
    clear hGc hGh
    clear Gc Gh
    refine xs_go hsuf (D := []) (by rfl) fun Gc Gh hGc hGh X hX0 hX => ?_
    simp -implicitDefEqProofs [hX0, hX, headP, pint, pbool]
    clear hX0 hX X
    intros
    refine hK _ _ _ ?_
    clear hK hGc hGh
    clear K Gc Gh
    obtain ⟨q1, q2⟩ := hin y (by simp)
    by_cases hw : y.2 = q.2
    · have q3 := q2 hw
      rw [hw] at q1
      have q1' : Op.bytesLess q.2.toList q.2.toList = false := q1
      repeat refine pw_seq ?_
      refine pw_N [(2, 53), (7, 58), (11, 62)] (by rfl) (by rfl) fun K Gc Gh hK hGc hGh X hX0 hX => ?_
      simp -implicitDefEqProofs [hX0, hX, q1', hw, q3, pbinStr, undef]
      try clear hX0 hX X
      intros
      refine hK _ _ _ ?_
      clear hK hGc hGh
      clear K Gc Gh
      repeat refine pw_seq ?_
      refine pw_cf rfl ?_
      refine pw_skip ?_
      repeat refine pw_seq ?_
      refine pw_N [] (by rfl) (by rfl) fun K Gc Gh hK hGc hGh X hX0 hX => ?_
      simp -implicitDefEqProofs [hX0, hX]
      try clear hX0 hX X
      intros
      refine hK _ _ _ ?_
      clear hK hGc hGh
      clear K Gc Gh
      repeat refine pw_seq ?_
      refine pw_N [] (by rfl) (by rfl) fun K Gc Gh hK hGc hGh X hX0 hX => ?_
      simp -implicitDefEqProofs [hX0, hX]
      try clear hX0 hX X
      intros
      refine hK _ _ _ ?_
      clear hK hGc hGh
      clear K Gc Gh
      repeat refine pw_seq ?_
      refine pw_N [] (by rfl) (by rfl) fun K Gc Gh hK hGc hGh X hX0 hX => ?_
      simp -implicitDefEqProofs [hX0, hX]
      try clear hX0 hX X
      intros
      refine hK _ _ _ ?_
      clear hK hGc hGh
      clear K Gc Gh
      exact again_mk (k + 1, y, o2) [] ⟨hc, hin2, m2⟩ (by simp; omega) (by simp [wrN k (by omega), hw]) rfl (by simp)
    · have q1' : Op.bytesLess y.2.toList q.2.toList = false := q1
      repeat refine pw_seq ?_
      refine pw_N [(2, 53), (7, 58), (11, 62)] (by rfl) (by rfl) fun K Gc Gh hK hGc hGh X hX0 hX => ?_
      simp -implicitDefEqProofs [hX0, hX, q1', hw, pbinStr, undef]
      try clear hX0 hX X
      intros
      refine hK _ _ _ ?_
      clear hK hGc hGh
      clear K Gc Gh
      repeat refine pw_seq ?_
      refine pw_cf rfl ?_
      refine pw_skip ?_
      repeat refine pw_seq ?_
      refine pw_N [] (by rfl) (by rfl) fun K Gc Gh hK hGc hGh X hX0 hX => ?_
      simp -implicitDefEqProofs [hX0, hX]
      try clear hX0 hX X
      intros
      refine hK _ _ _ ?_
      clear hK hGc hGh
      clear K Gc Gh
      repeat refine pw_seq ?_
      refine pw_N [] (by rfl) (by rfl) fun K Gc Gh hK hGc hGh X hX0 hX => ?_
      simp -implicitDefEqProofs [hX0, hX]
      try clear hX0 hX X
      intros
      refine hK _ _ _ ?_
      clear hK hGc hGh
      clear K Gc Gh
      repeat refine pw_seq ?_
      refine pw_N [] (by rfl) (by rfl) fun K Gc Gh hK hGc hGh X hX0 hX => ?_
      simp -implicitDefEqProofs [hX0, hX]
      try clear hX0 hX X
      intros
      refine hK _ _ _ ?_
      clear hK hGc hGh
      clear K Gc Gh
      exact again_mk (k + 1, y, o2) [] ⟨hc, hin2, m2⟩ (by simp; omega) (by simp [wrN k (by omega)]) rfl (by simp)
  · simp at hc
    have hk' : k = r.length := by omega
    subst hk'
    rw [List.drop_length] at hm
    refine pw_exit ?_
    repeat refine pw_seq ?_
    refine pw_N [(3, 73)] (by rfl) (by rfl) fun K Gc Gh hK hGc hGh X hX0 hX => ?_
    simp -implicitDefEqProofs [hX0, hX]
    try clear hX0 hX X
    refine hGc _ _ _ _ _ _ _ fun hsuf => ((hxLen (j := 0) hm rfl rfl rfl).mono ?_)
    rintro p _ ⟨rfl, rfl⟩
    refine ⟨_, _, rfl, ?_⟩
    clear hGc hGh
    clear Gc Gh
    refine xs_go hsuf (D := [(3, 73)]) (by rfl) fun Gc Gh hGc hGh X hX0 hX => ?_
    simp -implicitDefEqProofs [hX0, hX]
    clear hX0 hX X
    refine hGc _ _ _ _ _ _ _ fun hsuf => ((lives_ok _).mono ?_)
    rintro _ _ ⟨rfl, rfl⟩
    refine ⟨_, _, rfl, ?_⟩
    clear hGc hGh
    clear Gc Gh
    refine xs_go hsuf (D := [(3, 73)]) (by rfl) fun Gc Gh hGc hGh X hX0 hX => ?_
    simp -implicitDefEqProofs [hX0, hX]
    try clear hX0 hX X
    intros
    refine hK _ _ _ ?_
    clear hK hGc hGh
    clear K Gc Gh
    repeat refine pw_seq ?_
    exact pw_ret (ret_pure hd rfl rfl)

end Go.Proofs.Ytdmmihkmcennpaa.Ps
