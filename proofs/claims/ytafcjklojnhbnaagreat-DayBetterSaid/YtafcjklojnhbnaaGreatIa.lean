/- Arcs and ways, of the program and of the reference; a tour's parts. -/
import Derived.Test.YtafcjklojnhbnaaGreatFa
import Derived.Test.YtafcjklojnhbnaaGreatTy
namespace Go.Proofs.YtafcjklojnhbnaaGreat.Pv
open Go

/-- The way from a place to another one. -/
def arc (x : Inst) (a b : Int) : Int := if a < 0 ∨ b < 0 then 0 else ((x.dist.getD a.toNat []).getD b.toNat 0)

theorem arc_neg (x : Inst) (a b : Int) (h : a < 0 ∨ b < 0) : arc x a b = 0 := if_pos h
theorem arc_out (x : Inst) (a b : Int) (h : (x.dist.length : Int) ≤ a) : arc x a b = 0 := by
  unfold arc; split
  · rfl
  · have : x.dist.getD a.toNat [] = [] := by rw [List.getD_eq_getElem?_getD, List.getElem?_eq_none (by omega)]; rfl
    rw [this]; rfl
theorem arc_row {x : Inst} {a : Int} {row : List Int} (hr : x.dist[a.toNat]? = some row) : x.dist.getD a.toNat [] = row := by rw [List.getD_eq_getElem?_getD, hr]; rfl
theorem arc_out2 (x : Inst) (a b : Int) {row : List Int} (hr : x.dist[a.toNat]? = some row) (h : (row.length : Int) ≤ b) : arc x a b = 0 := by
  unfold arc; split
  · rfl
  · rw [arc_row hr, List.getD_eq_getElem?_getD, List.getElem?_eq_none (by omega)]; rfl
theorem arc_in (x : Inst) (a b : Int) {row : List Int} {d : Int} (ha : 0 ≤ a) (hb : 0 ≤ b) (hr : x.dist[a.toNat]? = some row) (h : row[b.toNat]? = some d) : arc x a b = d := by
  unfold arc
  rw [if_neg (by omega), arc_row hr, List.getD_eq_getElem?_getD, h]; rfl

set_option maxRecDepth 10000 in
theorem arcR_ok (x : Inst) (a b : Int) : Pure Tryz.prog 30 [.agg (instL x), I a, I b] (I (arc x a b)) := by
  refine pure_enter Tryz.func30 (by rfl) rfl Tryz.ntmps30 (congrArg Array.toList Tryz.results30) (by simp) fun S nx hd => ?_
  repeat refine pw_seq ?_
  refine pw_N [] (by rfl) (by rfl) fun K Gc Gh hK hGc hGh X hX0 hX => ?_
  simp -implicitDefEqProofs [hX0, hX]
  try clear hX0 hX X
  intros
  refine hK _ _ _ ?_
  clear hK hGc hGh
  clear K Gc Gh
  by_cases ha : a < 0
  · repeat refine pw_seq ?_
    refine pw_N [(2, 10), (6, 14)] (by rfl) (by rfl) fun K Gc Gh hK hGc hGh X hX0 hX => ?_
    simp -implicitDefEqProofs [hX0, hX, ha, undef]
    try clear hX0 hX X
    intros
    refine hK _ _ _ ?_
    clear hK hGc hGh
    clear K Gc Gh
    repeat refine pw_seq ?_
    refine pw_ct rfl ?_
    repeat refine pw_seq ?_
    refine pw_N [] (by rfl) (by rfl) fun K Gc Gh hK hGc hGh X hX0 hX => ?_
    simp -implicitDefEqProofs [hX0, hX]
    try clear hX0 hX X
    intros
    refine hK _ _ _ ?_
    clear hK hGc hGh
    clear K Gc Gh
    repeat refine pw_seq ?_
    exact pw_ret (ret_pure hd rfl (by rw [arc_neg _ _ _ (.inl ha)]; rfl))
  by_cases hb : b < 0
  · repeat refine pw_seq ?_
    refine pw_N [(2, 10), (6, 14)] (by rfl) (by rfl) fun K Gc Gh hK hGc hGh X hX0 hX => ?_
    simp -implicitDefEqProofs [hX0, hX, ha, hb, undef]
    try clear hX0 hX X
    intros
    refine hK _ _ _ ?_
    clear hK hGc hGh
    clear K Gc Gh
    repeat refine pw_seq ?_
    refine pw_ct rfl ?_
    repeat refine pw_seq ?_
    refine pw_N [] (by rfl) (by rfl) fun K Gc Gh hK hGc hGh X hX0 hX => ?_
    simp -implicitDefEqProofs [hX0, hX]
    try clear hX0 hX X
    intros
    refine hK _ _ _ ?_
    clear hK hGc hGh
    clear K Gc Gh
    repeat refine pw_seq ?_
    exact pw_ret (ret_pure hd rfl (by rw [arc_neg _ _ _ (.inr hb)]; rfl))
  by_cases hl : (x.dist.length : Int) ≤ a
  · repeat refine pw_seq ?_
    refine pw_N [(2, 10), (6, 14)] (by rfl) (by rfl) fun K Gc Gh hK hGc hGh X hX0 hX => ?_
    simp -implicitDefEqProofs [hX0, hX, ha, hb, hl]
    try clear hX0 hX X
    intros
    refine hK _ _ _ ?_
    clear hK hGc hGh
    clear K Gc Gh
    repeat refine pw_seq ?_
    refine pw_ct rfl ?_
    repeat refine pw_seq ?_
    refine pw_N [] (by rfl) (by rfl) fun K Gc Gh hK hGc hGh X hX0 hX => ?_
    simp -implicitDefEqProofs [hX0, hX]
    try clear hX0 hX X
    intros
    refine hK _ _ _ ?_
    clear hK hGc hGh
    clear K Gc Gh
    repeat refine pw_seq ?_
    exact pw_ret (ret_pure hd rfl (by rw [arc_out _ _ _ hl]; rfl))
  have hl' : a < x.dist.length := by omega
  have ha' : 0 ≤ a := by omega
  obtain ⟨row, tl, a1, _, _, e0⟩ := el1 rfl x.dist a.toNat (by omega)
  repeat refine pw_seq ?_
  refine pw_N [(2, 10), (6, 14)] (by rfl) (by rfl) fun K Gc Gh hK hGc hGh X hX0 hX => ?_
  simp -implicitDefEqProofs [hX0, hX, ha, hb, hl]
  try clear hX0 hX X
  intros
  refine hK _ _ _ ?_
  clear hK hGc hGh
  clear K Gc Gh
  repeat refine pw_seq ?_
  refine pw_cf rfl ?_
  refine pw_skip ?_
  repeat refine pw_seq ?_
  refine pw_N [(2, 10), (6, 14)] (by rfl) (by rfl) fun K Gc Gh hK hGc hGh X hX0 hX => ?_
  simp -implicitDefEqProofs [hX0, hX, ha', hl', e0]
  try clear hX0 hX X
  intros
  refine hK _ _ _ ?_
  clear hK hGc hGh
  clear K Gc Gh
  by_cases hw : (row.length : Int) ≤ b
  · repeat refine pw_seq ?_
    refine pw_N [] (by rfl) (by rfl) fun K Gc Gh hK hGc hGh X hX0 hX => ?_
    simp -implicitDefEqProofs [hX0, hX, hw]
    try clear hX0 hX X
    intros
    refine hK _ _ _ ?_
    clear hK hGc hGh
    clear K Gc Gh
    repeat refine pw_seq ?_
    refine pw_ct rfl ?_
    repeat refine pw_seq ?_
    refine pw_N [] (by rfl) (by rfl) fun K Gc Gh hK hGc hGh X hX0 hX => ?_
    simp -implicitDefEqProofs [hX0, hX]
    try clear hX0 hX X
    intros
    refine hK _ _ _ ?_
    clear hK hGc hGh
    clear K Gc Gh
    repeat refine pw_seq ?_
    exact pw_ret (ret_pure hd rfl (by rw [arc_out2 _ _ _ a1 hw]; rfl))
  have hw' : b < row.length := by omega
  have hb' : 0 ≤ b := by omega
  obtain ⟨d, tl2, b1, _, _, e1⟩ := el1 rfl row b.toNat (by omega)
  repeat refine pw_seq ?_
  refine pw_N [] (by rfl) (by rfl) fun K Gc Gh hK hGc hGh X hX0 hX => ?_
  simp -implicitDefEqProofs [hX0, hX, hw]
  try clear hX0 hX X
  intros
  refine hK _ _ _ ?_
  clear hK hGc hGh
  clear K Gc Gh
  repeat refine pw_seq ?_
  refine pw_cf rfl ?_
  refine pw_skip ?_
  repeat refine pw_seq ?_
  refine pw_N [] (by rfl) (by rfl) fun K Gc Gh hK hGc hGh X hX0 hX => ?_
  simp -implicitDefEqProofs [hX0, hX, hb', hw', e1]
  try clear hX0 hX X
  intros
  refine hK _ _ _ ?_
  clear hK hGc hGh
  clear K Gc Gh
  repeat refine pw_seq ?_
  exact pw_ret (ret_pure hd rfl (by rw [arc_in x a b ha' hb' a1 b1]; rfl))

set_option maxRecDepth 10000 in
theorem arcP_ok (x : Inst) (a b : Int) : Pure Tryz.prog 106 [.agg (instL x), I a, I b] (I (arc x a b)) := by
  refine pure_enter Tryz.func106 (by rfl) rfl Tryz.ntmps106 (congrArg Array.toList Tryz.results106) (by simp) fun S nx hd => ?_
  repeat refine pw_seq ?_
  refine pw_N [] (by rfl) (by rfl) fun K Gc Gh hK hGc hGh X hX0 hX => ?_
  simp -implicitDefEqProofs [hX0, hX]
  try clear hX0 hX X
  intros
  refine hK _ _ _ ?_
  clear hK hGc hGh
  clear K Gc Gh
  by_cases ha : a < 0
  · repeat refine pw_seq ?_
    refine pw_N [(2, 9), (9, 16), (13, 20)] (by rfl) (by rfl) fun K Gc Gh hK hGc hGh X hX0 hX => ?_
    simp -implicitDefEqProofs [hX0, hX, ha, undef]
    try clear hX0 hX X
    intros
    refine hK _ _ _ ?_
    clear hK hGc hGh
    clear K Gc Gh
    repeat refine pw_seq ?_
    refine pw_ct rfl ?_
    repeat refine pw_seq ?_
    refine pw_N [] (by rfl) (by rfl) fun K Gc Gh hK hGc hGh X hX0 hX => ?_
    simp -implicitDefEqProofs [hX0, hX]
    try clear hX0 hX X
    intros
    refine hK _ _ _ ?_
    clear hK hGc hGh
    clear K Gc Gh
    repeat refine pw_seq ?_
    exact pw_ret (ret_pure hd rfl (by rw [arc_neg _ _ _ (.inl ha)]; rfl))
  by_cases hl : (x.dist.length : Int) ≤ a
  · repeat refine pw_seq ?_
    refine pw_N [(2, 9), (9, 16), (13, 20)] (by rfl) (by rfl) fun K Gc Gh hK hGc hGh X hX0 hX => ?_
    simp -implicitDefEqProofs [hX0, hX, ha, hl, undef]
    try clear hX0 hX X
    intros
    refine hK _ _ _ ?_
    clear hK hGc hGh
    clear K Gc Gh
    repeat refine pw_seq ?_
    refine pw_ct rfl ?_
    repeat refine pw_seq ?_
    refine pw_N [] (by rfl) (by rfl) fun K Gc Gh hK hGc hGh X hX0 hX => ?_
    simp -implicitDefEqProofs [hX0, hX]
    try clear hX0 hX X
    intros
    refine hK _ _ _ ?_
    clear hK hGc hGh
    clear K Gc Gh
    repeat refine pw_seq ?_
    exact pw_ret (ret_pure hd rfl (by rw [arc_out _ _ _ hl]; rfl))
  by_cases hb : b < 0
  · repeat refine pw_seq ?_
    refine pw_N [(2, 9), (9, 16), (13, 20)] (by rfl) (by rfl) fun K Gc Gh hK hGc hGh X hX0 hX => ?_
    simp -implicitDefEqProofs [hX0, hX, ha, hb, hl, undef]
    try clear hX0 hX X
    intros
    refine hK _ _ _ ?_
    clear hK hGc hGh
    clear K Gc Gh
    repeat refine pw_seq ?_
    refine pw_ct rfl ?_
    repeat refine pw_seq ?_
    refine pw_N [] (by rfl) (by rfl) fun K Gc Gh hK hGc hGh X hX0 hX => ?_
    simp -implicitDefEqProofs [hX0, hX]
    try clear hX0 hX X
    intros
    refine hK _ _ _ ?_
    clear hK hGc hGh
    clear K Gc Gh
    repeat refine pw_seq ?_
    exact pw_ret (ret_pure hd rfl (by rw [arc_neg _ _ _ (.inr hb)]; rfl))
  have hl' : a < x.dist.length := by omega
  have ha' : 0 ≤ a := by omega
  obtain ⟨row, tl, a1, _, _, e0⟩ := el1 rfl x.dist a.toNat (by omega)
  by_cases hw : (row.length : Int) ≤ b
  · repeat refine pw_seq ?_
    refine pw_N [(2, 9), (9, 16), (13, 20)] (by rfl) (by rfl) fun K Gc Gh hK hGc hGh X hX0 hX => ?_
    simp -implicitDefEqProofs [hX0, hX, ha, hb, hl, ha', hl', e0, hw]
    try clear hX0 hX X
    intros
    refine hK _ _ _ ?_
    clear hK hGc hGh
    clear K Gc Gh
    repeat refine pw_seq ?_
    refine pw_ct rfl ?_
    repeat refine pw_seq ?_
    refine pw_N [] (by rfl) (by rfl) fun K Gc Gh hK hGc hGh X hX0 hX => ?_
    simp -implicitDefEqProofs [hX0, hX]
    try clear hX0 hX X
    intros
    refine hK _ _ _ ?_
    clear hK hGc hGh
    clear K Gc Gh
    repeat refine pw_seq ?_
    exact pw_ret (ret_pure hd rfl (by rw [arc_out2 _ _ _ a1 hw]; rfl))
  have hw' : b < row.length := by omega
  have hb' : 0 ≤ b := by omega
  obtain ⟨d, tl2, b1, _, _, e1⟩ := el1 rfl row b.toNat (by omega)
  repeat refine pw_seq ?_
  refine pw_N [(2, 9), (9, 16), (13, 20)] (by rfl) (by rfl) fun K Gc Gh hK hGc hGh X hX0 hX => ?_
  simp -implicitDefEqProofs [hX0, hX, ha, hb, hl, ha', hl', e0, hw]
  try clear hX0 hX X
  intros
  refine hK _ _ _ ?_
  clear hK hGc hGh
  clear K Gc Gh
  repeat refine pw_seq ?_
  refine pw_cf rfl ?_
  refine pw_skip ?_
  repeat refine pw_seq ?_
  refine pw_N [(2, 9), (9, 16), (13, 20)] (by rfl) (by rfl) fun K Gc Gh hK hGc hGh X hX0 hX => ?_
  simp -implicitDefEqProofs [hX0, hX, ha', hl', e0, hb', hw', e1]
  try clear hX0 hX X
  intros
  refine hK _ _ _ ?_
  clear hK hGc hGh
  clear K Gc Gh
  repeat refine pw_seq ?_
  exact pw_ret (ret_pure hd rfl (by rw [arc_in x a b ha' hb' a1 b1]; rfl))

end Go.Proofs.YtafcjklojnhbnaaGreat.Pv
