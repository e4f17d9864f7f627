/- The laws HeapPlays and HeapOrders. -/
import Derived.Test.YtdmmihkmcennpaaHk
namespace Go.Proofs.Ytdmmihkmcennpaa.Pv
open Go Hp

theorem HX.sorted {o : Ob × Ob × Ob} {a hv mv : Nat} {r : Its Int} (h : HX o a hv mv r) : SortedI r := by
  obtain ⟨_, _, _, h⟩ := h (fun i => if i = a then o.1 else if i = a + 1 then o.2.1 else o.2.2) (by simp) (by simp) (by simp)
  exact h

section
variable {S : Store} {nx j hv mv : Nat} {obs : List Ob} {o : Ob × Ob × Ob} {r : Its Int} (h : HX o (nx + j) hv mv r) (h1 : obs[j]? = some o.1) (h2 : obs[j + 1]? = some o.2.1) (h3 : obs[j + 2]? = some o.2.2) (hd : DeadFrom nx S)
include h h1 h2 h3
theorem hxDoes (d : Deed) (hr : r.length ≤ 1048576) : Spec Try.prog 15 [.ptr (nx + j + 1) hv 0, L r, .agg [I d.kind, I d.id, I d.w]] (ext S nx obs) (fun p T => p = .tup [L (doL d r), B true] ∧ ∃ o', HX o' (nx + j) hv mv (doL d r) ∧ T = ext S nx (put3 obs j o')) :=
  have h0 := does_ok (h.hm h1 h2 h3) (ext_dead (S := S) (nx := nx) (obs := obs)) d hr
  hx_turn h0.1 (List.getElem?_eq_some_iff.1 h3).1 h0.2
theorem hxLike (id : Int) (hr : r.length ≤ 1048576) : Spec Try.prog 20 [.ptr (nx + j + 1) hv 0, L r, I id] (ext S nx obs) (fun p T => p = B true ∧ T = ext S nx obs) :=
  like_ok (h.hm h1 h2 h3) ext_dead id hr
end

theorem heapPlays_ok (l : List Deed) (hl : l.length ≤ 9223372036854775807) : Pure Try.prog 6 [L l] (B true) := by
  refine pure_enter Try.func6 (by rfl) rfl Try.ntmps6 (congrArg Array.toList Try.results6) (by simp) fun S nx hd => ?_
  repeat refine pw_seq ?_
  refine pw_N [] (by rfl) (by rfl) fun K Gc Gh hK hGc hGh X hX0 hX => ?_
  simp -implicitDefEqProofs [hX0, hX]
  try clear hX0 hX X
  intros
  refine hK _ _ _ ?_
  clear hK hGc hGh
  clear K Gc Gh
  repeat refine pw_seq ?_
  refine pw_N [] (by rfl) (by rfl) fun K Gc Gh hK hGc hGh X hX0 hX => ?_
  simp -implicitDefEqProofs [hX0, hX]
  try clear hX0 hX X
  refine hGc _ _ _ _ _ _ _ fun hsuf => (hxNew.mono ?_)
  rintro p T ⟨hv, mv, o1, rfl, m1, rfl⟩
  refine ⟨_, _, rfl, ?_⟩
  clear hGc hGh
  clear Gc Gh
  refine xs_go hsuf (D := []) (by rfl) fun Gc Gh hGc hGh X hX0 hX => ?_
  simp -implicitDefEqProofs [hX0, hX]
  clear hX0 hX X
  intros
  refine hK _ _ _ ?_
  clear hK hGc hGh
  clear K Gc Gh
  repeat refine pw_seq ?_
  refine pw_N [] (by rfl) (by rfl) fun K Gc Gh hK hGc hGh X hX0 hX => ?_
  simp -implicitDefEqProofs [hX0, hX]
  try clear hX0 hX X
  intros
  refine hK _ _ _ ?_
  clear hK hGc hGh
  clear K Gc Gh
  repeat refine pw_seq ?_
  refine pw_cf rfl ?_
  refine pw_skip ?_
  repeat refine pw_seq ?_
  refine pw_N [] (by rfl) (by rfl) fun K Gc Gh hK hGc hGh X hX0 hX => ?_
  simp -implicitDefEqProofs [hX0, hX]
  try clear hX0 hX X
  intros
  refine hK _ _ _ ?_
  clear hK hGc hGh
  clear K Gc Gh
  refine pw_seq (pw_nil_lst 4 rfl ?_)
  repeat refine pw_seq ?_
  refine pw_N [] (by rfl) (by rfl) fun K Gc Gh hK hGc hGh X hX0 hX => ?_
  simp -implicitDefEqProofs [hX0, hX]
  try clear hX0 hX X
  intros
  refine hK _ _ _ ?_
  clear hK hGc hGh
  clear K Gc Gh
  repeat refine pw_seq ?_
  refine pw_block (pw_loopL (fun s : Nat × Its Int × Ob × Ob × Ob => s.1 ≤ 60 ∧ s.1 ≤ l.length ∧ s.2.1.length ≤ s.1 ∧ HX s.2.2 nx hv mv s.2.1) (fun (k, r, o) => [(0, L l), (3, .ptr (nx + 1) hv 0), (4, L r), (5, I k)]) (fun (k, r, o) => [o.1, o.2.1, o.2.2]) (fun s => l.length - s.1) (0, [], o1) [] ⟨by simp, by simp, by simp, m1⟩ (by simp) (by simp) ?_)
  rintro ⟨k, r, o⟩ ⟨h6, hk, hr, hm⟩
  simp only at h6 hk hr hm ⊢
  by_cases hc : k < l.length
  · have hc' : (k : Int) < l.length := by omega
    by_cases hq : k < 60
    · have hq' : (k : Int) < 60 := by omega
      obtain ⟨d, tl, a1, a2, a3, e1, e0⟩ := el 3 rfl l k hc
      repeat refine pw_seq ?_
      refine pw_N [(4, 15)] (by rfl) (by rfl) fun K Gc Gh hK hGc hGh X hX0 hX => ?_
      simp -implicitDefEqProofs [hX0, hX, hc, hq']
      try clear hX0 hX X
      intros
      refine hK _ _ _ ?_
      clear hK hGc hGh
      clear K Gc Gh
      repeat refine pw_seq ?_
      refine pw_ct rfl ?_
      refine pw_skip (pw_seq (pw_block ?_))
      repeat refine pw_seq ?_
      refine pw_N [] (by rfl) (by rfl) fun K Gc Gh hK hGc hGh X hX0 hX => ?_
      simp -implicitDefEqProofs [hX0, hX]
      try clear hX0 hX X
      intros
      refine hK _ _ _ ?_
      clear hK hGc hGh
      clear K Gc Gh
      repeat refine pw_seq ?_
      refine pw_N [] (by rfl) (by rfl) fun K Gc Gh hK hGc hGh X hX0 hX => ?_
      simp -implicitDefEqProofs [hX0, hX, hc, e0]
      try clear hX0 hX X
      refine hGc _ _ _ _ _ _ _ fun hsuf => ((hxDoes (j := 0) hm rfl rfl rfl d (by omega)).mono ?_)
      rintro p T ⟨rfl, o2, m2, rfl⟩
      refine ⟨_, _, rfl, ?_⟩
      clear hGc hGh
      clear Gc Gh
      refine xs_go hsuf (D := []) (by rfl) fun Gc Gh hGc hGh X hX0 hX => ?_
      simp -implicitDefEqProofs [hX0, hX]
      clear hX0 hX X
      intros
      refine hK _ _ _ ?_
      clear hK hGc hGh
      clear K Gc Gh
      have hdl := doL_len d r
      repeat refine pw_seq ?_
      refine pw_N [] (by rfl) (by rfl) fun K Gc Gh hK hGc hGh X hX0 hX => ?_
      simp -implicitDefEqProofs [hX0, hX, hc, e0, e1]
      try clear hX0 hX X
      refine hGc _ _ _ _ _ _ _ fun hsuf => ((hxLike (j := 0) m2 rfl rfl rfl d.id (by omega)).mono ?_)
      rintro p T ⟨rfl, rfl⟩
      refine ⟨_, _, rfl, ?_⟩
      clear hGc hGh
      clear Gc Gh
      refine xs_go hsuf (D := []) (by rfl) fun Gc Gh hGc hGh X hX0 hX => ?_
      simp -implicitDefEqProofs [hX0, hX]
      clear hX0 hX X
      intros
      refine hK _ _ _ ?_
      clear hK hGc hGh
      clear K Gc Gh
      repeat refine pw_seq ?_
      refine pw_N [(2, 41)] (by rfl) (by rfl) fun K Gc Gh hK hGc hGh X hX0 hX => ?_
      simp -implicitDefEqProofs [hX0, hX]
      try clear hX0 hX X
      intros
      refine hK _ _ _ ?_
      clear hK hGc hGh
      clear K Gc Gh
      repeat refine pw_seq ?_
      refine pw_cf rfl ?_
      refine pw_skip ?_
      repeat refine pw_seq ?_
      refine pw_N [] (by rfl) (by rfl) fun K Gc Gh hK hGc hGh X hX0 hX => ?_
      simp -implicitDefEqProofs [hX0, hX]
      try clear hX0 hX X
      intros
      refine hK _ _ _ ?_
      clear hK hGc hGh
      clear K Gc Gh
      exact again_mk (k + 1, doL d r, o2) [] ⟨by simp; omega, hc, by simp; omega, m2⟩ (by simp; omega) (by simp [wrN k (by omega)]) rfl (by simp)
    · have hq' : ¬ (k : Int) < 60 := by omega
      repeat refine pw_seq ?_
      refine pw_N [(4, 15)] (by rfl) (by rfl) fun K Gc Gh hK hGc hGh X hX0 hX => ?_
      simp -implicitDefEqProofs [hX0, hX, hc, hq']
      try clear hX0 hX X
      intros
      refine hK _ _ _ ?_
      clear hK hGc hGh
      clear K Gc Gh
      repeat refine pw_seq ?_
      refine pw_cf rfl ?_
      refine pw_exit ?_
      repeat refine pw_seq ?_
      refine pw_N [] (by rfl) (by rfl) fun K Gc Gh hK hGc hGh X hX0 hX => ?_
      simp -implicitDefEqProofs [hX0, hX]
      try clear hX0 hX X
      refine hGc _ _ _ _ _ _ _ fun hsuf => ((lives_ok _).mono ?_)
      rintro _ _ ⟨rfl, rfl⟩
      refine ⟨_, _, rfl, ?_⟩
      clear hGc hGh
      clear Gc Gh
      refine xs_go hsuf (D := []) (by rfl) fun Gc Gh hGc hGh X hX0 hX => ?_
      simp -implicitDefEqProofs [hX0, hX]
      try clear hX0 hX X
      intros
      refine hK _ _ _ ?_
      clear hK hGc hGh
      clear K Gc Gh
      repeat refine pw_seq ?_
      exact pw_ret (ret_pure hd rfl rfl)
  · have hc' : ¬ (k : Int) < l.length := by omega
    repeat refine pw_seq ?_
    refine pw_N [(4, 15)] (by rfl) (by rfl) fun K Gc Gh hK hGc hGh X hX0 hX => ?_
    simp -implicitDefEqProofs [hX0, hX, hc, undef]
    try clear hX0 hX X
    intros
    refine hK _ _ _ ?_
    clear hK hGc hGh
    clear K Gc Gh
    repeat refine pw_seq ?_
    refine pw_cf rfl ?_
    refine pw_exit ?_
    repeat refine pw_seq ?_
    refine pw_N [] (by rfl) (by rfl) fun K Gc Gh hK hGc hGh X hX0 hX => ?_
    simp -implicitDefEqProofs [hX0, hX]
    try clear hX0 hX X
    refine hGc _ _ _ _ _ _ _ fun hsuf => ((lives_ok _).mono ?_)
    rintro _ _ ⟨rfl, rfl⟩
    refine ⟨_, _, rfl, ?_⟩
    clear hGc hGh
    clear Gc Gh
    refine xs_go hsuf (D := []) (by rfl) fun Gc Gh hGc hGh X hX0 hX => ?_
    simp -implicitDefEqProofs [hX0, hX]
    try clear hX0 hX X
    intros
    refine hK _ _ _ ?_
    clear hK hGc hGh
    clear K Gc Gh
    repeat refine pw_seq ?_
    exact pw_ret (ret_pure hd rfl rfl)

end Go.Proofs.Ytdmmihkmcennpaa.Pv
