/- savings.rowOf: a customer's row of pairs. -/
import Derived.Test.YtafcjklojnhbnaaGreatVe
import Derived.Test.YtafcjklojnhbnaaGreatSt
namespace Go.Proofs.YtafcjklojnhbnaaGreat.Pv
open Go Hp

theorem prsOf_snoc (x : Inst) (c : List Int) (a b : Int) : prsOf x (c ++ [b]) a = prsOf x c a ++ (if b ≠ a then [⟨a, b, savZ x a b⟩] else []) := by
  unfold prsOf
  by_cases h : b = a <;> simp [h]
theorem prsOf_len (x : Inst) (c : List Int) (a : Int) : (prsOf x c a).length ≤ c.length := by
  unfold prsOf
  rw [List.length_map]; exact List.length_filter_le _ _
theorem negS_snoc (l : List Pr) (p : Pr) : negS (l ++ [p]) = negS l ++ [-p.s] := by simp [negS]
theorem negS_len (l : List Pr) : (negS l).length = l.length := by simp [negS]

set_option maxRecDepth 20000 in
theorem rowOf_ok (x : Inst) (c : List Int) (a : Int) (hx : ArcOk x) (hc : c.length ≤ 1048576) (hs : ∀ b ∈ c, small b) (ha : small a) : Pure Tryz.prog 126 [.agg (instL x), L c, I a] (L (rowP x c a)) := by
  refine pure_enter Tryz.func126 (by rfl) rfl Tryz.ntmps126 (congrArg Array.toList Tryz.results126) (by simp) fun S nx hd => ?_
  repeat refine pw_seq ?_
  refine pw_N [] (by rfl) (by rfl) fun K Gc Gh hK hGc hGh X hX0 hX => ?_
  simp -implicitDefEqProofs [hX0, hX]
  try clear hX0 hX X
  intro v0
  refine hK _ _ _ ?_
  clear hK hGc hGh
  clear K Gc Gh
  repeat refine pw_seq ?_
  refine pw_N [] (by rfl) (by rfl) fun K Gc Gh hK hGc hGh X hX0 hX => ?_
  simp -implicitDefEqProofs [hX0, hX]
  try clear hX0 hX X
  intros
  refine hK _ _ _ ?_
  clear hK hGc hGh
  clear K Gc Gh
  refine pw_seq (pw_nilX 7 117 3 rfl fun v1 => ?_)
  repeat refine pw_seq ?_
  refine pw_N [] (by rfl) (by rfl) fun K Gc Gh hK hGc hGh X hX0 hX => ?_
  simp -implicitDefEqProofs [hX0, hX]
  try clear hX0 hX X
  intros
  refine hK _ _ _ ?_
  clear hK hGc hGh
  clear K Gc Gh
  refine pw_seq (pw_nilX 8 3 1 rfl fun v2 => ?_)
  repeat refine pw_seq ?_
  refine pw_N [] (by rfl) (by rfl) fun K Gc Gh hK hGc hGh X hX0 hX => ?_
  simp -implicitDefEqProofs [hX0, hX]
  try clear hX0 hX X
  intros
  refine hK _ _ _ ?_
  clear hK hGc hGh
  clear K Gc Gh
  repeat refine pw_seq ?_
  refine pw_block (pw_loopL (fun s : Nat × List Pr × Nat × Nat => s.1 ≤ c.length ∧ s.2.1 = prsOf x (c.take s.1) a) (fun (k, ps, v1, v2) => [(1, L c), (2, I a), (3, .ptr nx v0 0), (7, .sl (nx + 1) v1 3 0 ps.length), (8, .sl (nx + 2) v2 1 0 ps.length), (15, L c), (16, I c.length), (17, I k)]) (fun (k, ps, v1, v2) => [.cells v0 25 (instL x), .cells v1 117 (ps.flatMap Enc.enc), .cells v2 3 ((negS ps).flatMap Enc.enc)]) (fun s => c.length - s.1) (0, [], v1, v2) [] (by simp [prsOf]) (by simp) (by simp [negS]) ?_)
  rintro ⟨k, ps, v1, v2⟩ ⟨hk, ho⟩
  simp only at hk ho ⊢
  have hpl : ps.length ≤ k := by rw [ho]; refine Nat.le_trans (prsOf_len _ _ _) ?_; simp; omega
  have hnl := negS_len ps
  repeat refine pw_seq ?_
  refine pw_N [] (by rfl) (by rfl) fun K Gc Gh hK hGc hGh X hX0 hX => ?_
  simp -implicitDefEqProofs [hX0, hX]
  try clear hX0 hX X
  intros
  refine hK _ _ _ ?_
  clear hK hGc hGh
  clear K Gc Gh
  repeat refine pw_seq ?_
  refine pw_cond rfl (fun hq => ?_) (fun hq => ?_)
  · simp at hq
    obtain ⟨b, tl, a1, a2, a3, e0⟩ := el1 rfl c k hq
    have hb := hs b (List.mem_of_getElem? a1)
    have hsv := savZ_le hx a b
    have w5 : IntKind.i64.wrap (-savZ x a b) = -savZ x a b := wr _ (by omega) (by omega)
    have hsn := prsOf_snoc x (c.take k) a b
    rw [← a3, ← ho] at hsn
    refine pw_skip (pw_seq (pw_block ?_))
    repeat refine pw_seq ?_
    refine pw_N [] (by rfl) (by rfl) fun K Gc Gh hK hGc hGh X hX0 hX => ?_
    simp -implicitDefEqProofs [hX0, hX, e0, hq]
    try clear hX0 hX X
    intros
    refine hK _ _ _ ?_
    clear hK hGc hGh
    clear K Gc Gh
    repeat refine pw_seq ?_
    refine pw_N [] (by rfl) (by rfl) fun K Gc Gh hK hGc hGh X hX0 hX => ?_
    simp -implicitDefEqProofs [hX0, hX]
    try clear hX0 hX X
    intros
    refine hK _ _ _ ?_
    clear hK hGc hGh
    clear K Gc Gh
    repeat refine pw_seq ?_
    refine pw_cond rfl (fun hne => ?_) (fun hne => ?_)
    · simp at hne
      rw [if_pos hne] at hsn
      repeat refine pw_seq ?_
      refine pw_N [] (by rfl) (by rfl) fun K Gc Gh hK hGc hGh X hX0 hX => ?_
      simp -implicitDefEqProofs [hX]
      try clear hX0 hX X
      refine hGc _ _ _ _ _ _ _ fun hsuf => ((savesP_ok x a b hx ha hb _).mono ?_).v
      rintro _ _ ⟨rfl, rfl⟩
      refine ⟨_, _, rfl, ?_⟩
      clear hGc hGh
      clear Gc Gh
      refine xs_go hsuf (D := []) (by rfl) fun Gc Gh hGc hGh X hX0 hX => ?_
      simp -implicitDefEqProofs [hX0, hX]
      try clear hX0 hX X
      intro v3
      intros
      refine hK _ _ _ ?_
      clear hK hGc hGh
      clear K Gc Gh
      repeat refine pw_seq ?_
      refine pw_N [] (by rfl) (by rfl) fun K Gc Gh hK hGc hGh X hX0 hX => ?_
      simp -implicitDefEqProofs [hX0, hX]
      try clear hX0 hX X
      refine ⟨by omega, ?_⟩
      intros
      refine hK _ _ _ ?_
      clear hK hGc hGh
      clear K Gc Gh
      have htk : List.take ps.length ((negS ps).flatMap Enc.enc) = (negS ps).flatMap Enc.enc := by rw [← hnl]; exact ftake_int _
      have hnf : ((negS ps).flatMap Enc.enc).length = ps.length := by rw [flen_int, hnl]
      repeat refine pw_seq ?_
      refine pw_N [] (by rfl) (by rfl) fun K Gc Gh hK hGc hGh X hX0 hX => ?_
      simp -implicitDefEqProofs [hX0, hX, w5, htk]
      try clear hX0 hX X
      refine ⟨by omega, ?_⟩
      intros
      refine hK _ _ _ ?_
      clear hK hGc hGh
      clear K Gc Gh
      repeat refine pw_seq ?_
      refine pw_N [] (by rfl) (by rfl) fun K Gc Gh hK hGc hGh X hX0 hX => ?_
      simp -implicitDefEqProofs [hX0, hX]
      try clear hX0 hX X
      intros
      refine hK _ _ _ ?_
      clear hK hGc hGh
      clear K Gc Gh
      exact again_mk (k + 1, ps ++ [⟨a, b, savZ x a b⟩], v1 + 1, v2 + 1) [_] ⟨hq, hsn.symm⟩ (by simp; omega) (by simp [wrN k (by omega)]) rfl (by simp [negS_snoc]; rfl)
    · simp at hne
      rw [if_neg (by simp [hne]), List.append_nil] at hsn
      refine pw_skip ?_
      repeat refine pw_seq ?_
      refine pw_N [] (by rfl) (by rfl) fun K Gc Gh hK hGc hGh X hX0 hX => ?_
      simp -implicitDefEqProofs [hX0, hX]
      try clear hX0 hX X
      intros
      refine hK _ _ _ ?_
      clear hK hGc hGh
      clear K Gc Gh
      exact again_mk (k + 1, ps, v1, v2) [] ⟨hq, hsn.symm⟩ (by simp; omega) (by simp [wrN k (by omega)]) rfl (by simp)
  · simp at hq
    obtain rfl : k = c.length := by omega
    rw [List.take_length] at ho
    refine pw_exit ?_
    refine pw_frz 1 rfl ?_
    refine pw_frz 2 rfl ?_
    repeat refine pw_seq ?_
    refine pw_N [] (by rfl) (by rfl) fun K Gc Gh hK hGc hGh X hX0 hX => ?_
    simp -implicitDefEqProofs [hX0, hX]
    try clear hX0 hX X
    intros
    refine hK _ _ _ ?_
    clear hK hGc hGh
    clear K Gc Gh
    refine pw_seq (pw_nilX 12 117 3 rfl fun v3 => ?_)
    have hrw : rowP x c a = (sortI (negS ps)).map (getP ps) := by rw [ho]; rfl
    rw [hrw]
    have hsl := sortI_len (negS ps)
    have hmem : ∀ z ∈ sortI (negS ps), 0 ≤ z ∧ z < ps.length := fun z h => by have := sortI_mem h; omega
    have hcall := sortedH_ok (negS ps) (by omega)
    rw [show L (negS ps) = PV.lst ps.length ((negS ps).flatMap Enc.enc) from by rw [← hnl]] at hcall
    generalize negS ps = ns at *
    repeat refine pw_seq ?_
    refine pw_N [] (by rfl) (by rfl) fun K Gc Gh hK hGc hGh X hX0 hX => ?_
    simp -implicitDefEqProofs [hX, hnl]
    try clear hX0 hX X
    refine hGc _ _ _ _ _ _ _ fun hsuf => ((hcall _).mono ?_).v
    rintro _ _ ⟨rfl, rfl⟩
    refine ⟨_, _, rfl, ?_⟩
    clear hGc hGh
    clear Gc Gh
    refine xs_go hsuf (D := []) (by rfl) fun Gc Gh hGc hGh X hX0 hX => ?_
    simp -implicitDefEqProofs [hX0, hX]
    try clear hX0 hX X
    intros
    refine hK _ _ _ ?_
    clear hK hGc hGh
    clear K Gc Gh
    generalize sortI ns = is at *
    repeat refine pw_seq ?_
    refine pw_block (pw_loopL (fun s : Nat × List Pr × Nat => s.1 ≤ is.length ∧ s.2.1 = (is.take s.1).map (getP ps)) (fun (k, os, v) => [(7, L ps), (12, .sl (nx + 3) v 3 0 os.length), (43, L is), (44, I is.length), (45, I k)]) (fun (k, os, v) => [.cells v0 25 (instL x), .dead, .dead, .cells v 117 (os.flatMap Enc.enc)]) (fun s => is.length - s.1) (0, [], v3) [] (by simp) (by simp) (by simp) ?_)
    rintro ⟨k, os, v⟩ ⟨hk, ho2⟩
    simp only at hk ho2 ⊢
    repeat refine pw_seq ?_
    refine pw_N [] (by rfl) (by rfl) fun K Gc Gh hK hGc hGh X hX0 hX => ?_
    simp -implicitDefEqProofs [hX0, hX]
    try clear hX0 hX X
    intros
    refine hK _ _ _ ?_
    clear hK hGc hGh
    clear K Gc Gh
    repeat refine pw_seq ?_
    refine pw_cond rfl (fun hq => ?_) (fun hq => ?_)
    · simp at hq
      obtain ⟨i, tl, a1, a2, a3, e0⟩ := el1 rfl is k hq
      obtain ⟨q1, q2⟩ := hmem i (List.mem_of_getElem? a1)
      obtain ⟨j, rfl⟩ : ∃ j : Nat, i = j := ⟨i.toNat, by omega⟩
      have hj : j < ps.length := by omega
      obtain ⟨p, tp, b1, b2, b3, e1, e2⟩ := el 3 rfl ps j hj
      have hg : getP ps (j : Int) = p := by simp [getP, List.getD_eq_getElem?_getD, b1]
      have hgs : (is.take (k + 1)).map (getP ps) = os ++ [p] := by rw [a3, ho2]; simp [hg]
      have hgl : os.length = k := by rw [ho2]; simp; omega
      refine pw_skip (pw_seq (pw_block ?_))
      repeat refine pw_seq ?_
      refine pw_N [] (by rfl) (by rfl) fun K Gc Gh hK hGc hGh X hX0 hX => ?_
      simp -implicitDefEqProofs [hX0, hX, e0, hq]
      try clear hX0 hX X
      intros
      refine hK _ _ _ ?_
      clear hK hGc hGh
      clear K Gc Gh
      repeat refine pw_seq ?_
      refine pw_N [] (by rfl) (by rfl) fun K Gc Gh hK hGc hGh X hX0 hX => ?_
      simp -implicitDefEqProofs [hX0, hX, e2, hj]
      try clear hX0 hX X
      refine ⟨by omega, ?_⟩
      intros
      refine hK _ _ _ ?_
      clear hK hGc hGh
      clear K Gc Gh
      repeat refine pw_seq ?_
      refine pw_N [] (by rfl) (by rfl) fun K Gc Gh hK hGc hGh X hX0 hX => ?_
      simp -implicitDefEqProofs [hX0, hX]
      try clear hX0 hX X
      intros
      refine hK _ _ _ ?_
      clear hK hGc hGh
      clear K Gc Gh
      exact again_mk (k + 1, os ++ [p], v + 1) [] ⟨hq, hgs.symm⟩ (by simp; omega) (by simp [wrN k (by omega)]) rfl (by simp)
    · simp at hq
      obtain rfl : k = is.length := by omega
      rw [List.take_length] at ho2
      refine pw_exit ?_
      refine pw_frz 3 rfl ?_
      repeat refine pw_seq ?_
      refine pw_N [] (by rfl) (by rfl) fun K Gc Gh hK hGc hGh X hX0 hX => ?_
      simp -implicitDefEqProofs [hX0, hX]
      try clear hX0 hX X
      intros
      refine hK _ _ _ ?_
      clear hK hGc hGh
      clear K Gc Gh
      repeat refine pw_seq ?_
      exact pw_ret (ret_pure hd (by simp; rfl) (by simp [oneOf, ho2]))

end Go.Proofs.YtafcjklojnhbnaaGreat.Pv
