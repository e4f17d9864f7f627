/- heap.Sorted: the places of a row in the order of what stands there. -/
import Derived.Test.YtafcjklojnhbnaaGreatTy
import Derived.Test.YtafcjklojnhbnaaGreatFa
import Derived.Test.YtafcjklojnhbnaaGreatSr
import Derived.Test.YtafcjklojnhbnaaGreatSq
import Derived.Test.YtafcjklojnhbnaaGreatShelf
namespace Go.Proofs.YtafcjklojnhbnaaGreat.Pv
open Go

set_option maxRecDepth 20000 in
theorem isNaN_ok (x : Int) : Pure Tryz.prog 131 [I x] (B false) := by
  refine pure_enter Tryz.func131 (by rfl) rfl Tryz.ntmps131 (congrArg Array.toList Tryz.results131) (by simp) fun S nx hd => ?_
  repeat refine pw_seq ?_
  refine pw_N [] (by rfl) (by rfl) fun K Gc Gh hK hGc hGh X hX0 hX => ?_
  simp -implicitDefEqProofs [hX0, hX]
  try clear hX0 hX X
  intros
  refine hK _ _ _ ?_
  clear hK hGc hGh
  clear K Gc Gh
  repeat refine pw_seq ?_
  refine pw_N [] (by rfl) (by rfl) fun K Gc Gh hK hGc hGh X hX0 hX => ?_
  simp -implicitDefEqProofs [hX0, hX]
  try clear hX0 hX X
  intros
  refine hK _ _ _ ?_
  clear hK hGc hGh
  clear K Gc Gh
  repeat refine pw_seq ?_
  exact pw_ret (ret_pure hd (by simp; rfl) rfl)

set_option maxRecDepth 20000 in
theorem compare_ok (x y : Int) : Pure Tryz.prog 160 [I x, I y] (I (cmp3 x y)) := by
  refine pure_enter Tryz.func160 (by rfl) rfl Tryz.ntmps160 (congrArg Array.toList Tryz.results160) (by simp) fun S nx hd => ?_
  repeat refine pw_seq ?_
  refine pw_N [] (by rfl) (by rfl) fun K Gc Gh hK hGc hGh X hX0 hX => ?_
  simp -implicitDefEqProofs [hX0, hX]
  try clear hX0 hX X
  intros
  refine hK _ _ _ ?_
  clear hK hGc hGh
  clear K Gc Gh
  repeat refine pw_seq ?_
  refine pw_N [] (by rfl) (by rfl) fun K Gc Gh hK hGc hGh X hX0 hX => ?_
  simp -implicitDefEqProofs [hX]
  try clear hX0 hX X
  refine hGc _ _ _ _ _ _ _ fun hsuf => ((isNaN_ok x _).mono ?_).v
  rintro _ _ ⟨rfl, rfl⟩
  refine ⟨_, _, rfl, ?_⟩
  clear hGc hGh
  clear Gc Gh
  refine xs_go hsuf (D := []) (by rfl) fun Gc Gh hGc hGh X hX0 hX => ?_
  simp -implicitDefEqProofs [hX0, hX]
  try clear hX0 hX X
  intros
  refine hK _ _ _ ?_
  clear hK hGc hGh
  clear K Gc Gh
  repeat refine pw_seq ?_
  refine pw_N [] (by rfl) (by rfl) fun K Gc Gh hK hGc hGh X hX0 hX => ?_
  simp -implicitDefEqProofs [hX]
  try clear hX0 hX X
  refine hGc _ _ _ _ _ _ _ fun hsuf => ((isNaN_ok y _).mono ?_).v
  rintro _ _ ⟨rfl, rfl⟩
  refine ⟨_, _, rfl, ?_⟩
  clear hGc hGh
  clear Gc Gh
  refine xs_go hsuf (D := []) (by rfl) fun Gc Gh hGc hGh X hX0 hX => ?_
  simp -implicitDefEqProofs [hX0, hX]
  try clear hX0 hX X
  intros
  refine hK _ _ _ ?_
  clear hK hGc hGh
  clear K Gc Gh
  repeat refine pw_seq ?_
  refine pw_N [] (by rfl) (by rfl) fun K Gc Gh hK hGc hGh X hX0 hX => ?_
  simp -implicitDefEqProofs [hX0, hX]
  try clear hX0 hX X
  intros
  refine hK _ _ _ ?_
  clear hK hGc hGh
  clear K Gc Gh
  repeat refine pw_seq ?_
  refine pw_cf (by simp) ?_
  refine pw_skip ?_
  repeat refine pw_seq ?_
  refine pw_N [] (by rfl) (by rfl) fun K Gc Gh hK hGc hGh X hX0 hX => ?_
  simp -implicitDefEqProofs [hX0, hX]
  try clear hX0 hX X
  intros
  refine hK _ _ _ ?_
  clear hK hGc hGh
  clear K Gc Gh
  repeat refine pw_seq ?_
  refine pw_cf (by simp) ?_
  refine pw_skip ?_
  by_cases h1 : x < y
  · repeat refine pw_seq ?_
    refine pw_N [] (by rfl) (by rfl) fun K Gc Gh hK hGc hGh X hX0 hX => ?_
    simp -implicitDefEqProofs [hX0, hX, h1]
    try clear hX0 hX X
    intros
    refine hK _ _ _ ?_
    clear hK hGc hGh
    clear K Gc Gh
    repeat refine pw_seq ?_
    refine pw_ct (by simp) ?_
    repeat refine pw_seq ?_
    refine pw_N [] (by rfl) (by rfl) fun K Gc Gh hK hGc hGh X hX0 hX => ?_
    simp -implicitDefEqProofs [hX0, hX]
    try clear hX0 hX X
    intros
    refine hK _ _ _ ?_
    clear hK hGc hGh
    clear K Gc Gh
    repeat refine pw_seq ?_
    exact pw_ret (ret_pure hd (by simp; rfl) (by simp [cmp3, h1, oneOf]))
  repeat refine pw_seq ?_
  refine pw_N [] (by rfl) (by rfl) fun K Gc Gh hK hGc hGh X hX0 hX => ?_
  simp -implicitDefEqProofs [hX0, hX, h1]
  try clear hX0 hX X
  intros
  refine hK _ _ _ ?_
  clear hK hGc hGh
  clear K Gc Gh
  repeat refine pw_seq ?_
  refine pw_cf (by simp) ?_
  refine pw_skip ?_
  by_cases h2 : y < x
  · repeat refine pw_seq ?_
    refine pw_N [] (by rfl) (by rfl) fun K Gc Gh hK hGc hGh X hX0 hX => ?_
    simp -implicitDefEqProofs [hX0, hX, h2]
    try clear hX0 hX X
    intros
    refine hK _ _ _ ?_
    clear hK hGc hGh
    clear K Gc Gh
    repeat refine pw_seq ?_
    refine pw_ct (by simp) ?_
    repeat refine pw_seq ?_
    refine pw_N [] (by rfl) (by rfl) fun K Gc Gh hK hGc hGh X hX0 hX => ?_
    simp -implicitDefEqProofs [hX0, hX]
    try clear hX0 hX X
    intros
    refine hK _ _ _ ?_
    clear hK hGc hGh
    clear K Gc Gh
    repeat refine pw_seq ?_
    exact pw_ret (ret_pure hd (by simp; rfl) (by simp [cmp3, h1, h2, oneOf]))
  repeat refine pw_seq ?_
  refine pw_N [] (by rfl) (by rfl) fun K Gc Gh hK hGc hGh X hX0 hX => ?_
  simp -implicitDefEqProofs [hX0, hX, h2]
  try clear hX0 hX X
  intros
  refine hK _ _ _ ?_
  clear hK hGc hGh
  clear K Gc Gh
  repeat refine pw_seq ?_
  refine pw_cf (by simp) ?_
  refine pw_skip ?_
  repeat refine pw_seq ?_
  refine pw_N [] (by rfl) (by rfl) fun K Gc Gh hK hGc hGh X hX0 hX => ?_
  simp -implicitDefEqProofs [hX0, hX]
  try clear hX0 hX X
  intros
  refine hK _ _ _ ?_
  clear hK hGc hGh
  clear K Gc Gh
  repeat refine pw_seq ?_
  exact pw_ret (ret_pure hd (by simp; rfl) (by simp [cmp3, h1, h2, oneOf]))

set_option maxRecDepth 20000 in
/-- The first of two that is not 0. -/
theorem or2_ok (x y : Int) : Pure Tryz.prog 159 [.lst 2 [I x, I y]] (I (if x = 0 then y else x)) := by
  refine pure_enter Tryz.func159 (by rfl) rfl Tryz.ntmps159 (congrArg Array.toList Tryz.results159) (by simp) fun S nx hd => ?_
  repeat refine pw_seq ?_
  refine pw_N [] (by rfl) (by rfl) fun K Gc Gh hK hGc hGh X hX0 hX => ?_
  simp -implicitDefEqProofs [hX0, hX]
  try clear hX0 hX X
  intros
  refine hK _ _ _ ?_
  clear hK hGc hGh
  clear K Gc Gh
  repeat refine pw_seq ?_
  refine pw_N [] (by rfl) (by rfl) fun K Gc Gh hK hGc hGh X hX0 hX => ?_
  simp -implicitDefEqProofs [hX0, hX]
  try clear hX0 hX X
  intros
  refine hK _ _ _ ?_
  clear hK hGc hGh
  clear K Gc Gh
  repeat refine pw_seq ?_
  refine pw_N [] (by rfl) (by rfl) fun K Gc Gh hK hGc hGh X hX0 hX => ?_
  simp -implicitDefEqProofs [hX0, hX]
  try clear hX0 hX X
  intros
  refine hK _ _ _ ?_
  clear hK hGc hGh
  clear K Gc Gh
  repeat refine pw_seq ?_
  refine pw_block (pw_loopL (fun s : Nat => s ≤ 2 ∧ (0 < s → x = 0) ∧ (1 < s → y = 0)) (fun k => [(3, I 0), (6, .lst 2 [I x, I y]), (7, I 2), (8, I k)]) (fun _ => []) (fun s => 2 - s) 0 [] (by simp) (by simp) (by simp) ?_)
  rintro k ⟨hk, hk1, hk2⟩
  match k, hk, hk1, hk2 with
  | 0, _, _, _ =>
    repeat refine pw_seq ?_
    refine pw_N [] (by rfl) (by rfl) fun K Gc Gh hK hGc hGh X hX0 hX => ?_
    simp -implicitDefEqProofs [hX0, hX]
    try clear hX0 hX X
    intros
    refine hK _ _ _ ?_
    clear hK hGc hGh
    clear K Gc Gh
    repeat refine pw_seq ?_
    refine pw_ct (by simp) ?_
    refine pw_skip (pw_seq (pw_block ?_))
    repeat refine pw_seq ?_
    refine pw_N [] (by rfl) (by rfl) fun K Gc Gh hK hGc hGh X hX0 hX => ?_
    simp -implicitDefEqProofs [hX0, hX]
    try clear hX0 hX X
    intros
    refine hK _ _ _ ?_
    clear hK hGc hGh
    clear K Gc Gh
    by_cases hx : x = 0
    · repeat refine pw_seq ?_
      refine pw_N [] (by rfl) (by rfl) fun K Gc Gh hK hGc hGh X hX0 hX => ?_
      simp -implicitDefEqProofs [hX0, hX, hx]
      try clear hX0 hX X
      intros
      refine hK _ _ _ ?_
      clear hK hGc hGh
      clear K Gc Gh
      repeat refine pw_seq ?_
      refine pw_cf (by simp) ?_
      refine pw_skip ?_
      repeat refine pw_seq ?_
      refine pw_N [] (by rfl) (by rfl) fun K Gc Gh hK hGc hGh X hX0 hX => ?_
      simp -implicitDefEqProofs [hX0, hX]
      try clear hX0 hX X
      intros
      refine hK _ _ _ ?_
      clear hK hGc hGh
      clear K Gc Gh
      exact again_mk 1 [] ⟨by omega, fun _ => hx, by omega⟩ (by omega) (by simp [hx]; rfl) rfl (by simp)
    · repeat refine pw_seq ?_
      refine pw_N [] (by rfl) (by rfl) fun K Gc Gh hK hGc hGh X hX0 hX => ?_
      simp -implicitDefEqProofs [hX0, hX, hx]
      try clear hX0 hX X
      intros
      refine hK _ _ _ ?_
      clear hK hGc hGh
      clear K Gc Gh
      repeat refine pw_seq ?_
      refine pw_ct (by simp) ?_
      repeat refine pw_seq ?_
      refine pw_N [] (by rfl) (by rfl) fun K Gc Gh hK hGc hGh X hX0 hX => ?_
      simp -implicitDefEqProofs [hX0, hX]
      try clear hX0 hX X
      intros
      refine hK _ _ _ ?_
      clear hK hGc hGh
      clear K Gc Gh
      repeat refine pw_seq ?_
      exact pw_ret (ret_pure hd (by simp; rfl) (by simp [hx, oneOf]))
  | 1, _, hk1, _ =>
    have hx := hk1 (by omega)
    repeat refine pw_seq ?_
    refine pw_N [] (by rfl) (by rfl) fun K Gc Gh hK hGc hGh X hX0 hX => ?_
    simp -implicitDefEqProofs [hX0, hX]
    try clear hX0 hX X
    intros
    refine hK _ _ _ ?_
    clear hK hGc hGh
    clear K Gc Gh
    repeat refine pw_seq ?_
    refine pw_ct (by simp) ?_
    refine pw_skip (pw_seq (pw_block ?_))
    repeat refine pw_seq ?_
    refine pw_N [] (by rfl) (by rfl) fun K Gc Gh hK hGc hGh X hX0 hX => ?_
    simp -implicitDefEqProofs [hX0, hX]
    try clear hX0 hX X
    intros
    refine hK _ _ _ ?_
    clear hK hGc hGh
    clear K Gc Gh
    by_cases hy : y = 0
    · repeat refine pw_seq ?_
      refine pw_N [] (by rfl) (by rfl) fun K Gc Gh hK hGc hGh X hX0 hX => ?_
      simp -implicitDefEqProofs [hX0, hX, hy]
      try clear hX0 hX X
      intros
      refine hK _ _ _ ?_
      clear hK hGc hGh
      clear K Gc Gh
      repeat refine pw_seq ?_
      refine pw_cf (by simp) ?_
      refine pw_skip ?_
      repeat refine pw_seq ?_
      refine pw_N [] (by rfl) (by rfl) fun K Gc Gh hK hGc hGh X hX0 hX => ?_
      simp -implicitDefEqProofs [hX0, hX]
      try clear hX0 hX X
      intros
      refine hK _ _ _ ?_
      clear hK hGc hGh
      clear K Gc Gh
      exact again_mk 2 [] ⟨by omega, fun _ => hx, fun _ => hy⟩ (by omega) (by simp [hy]; rfl) rfl (by simp)
    · repeat refine pw_seq ?_
      refine pw_N [] (by rfl) (by rfl) fun K Gc Gh hK hGc hGh X hX0 hX => ?_
      simp -implicitDefEqProofs [hX0, hX, hy]
      try clear hX0 hX X
      intros
      refine hK _ _ _ ?_
      clear hK hGc hGh
      clear K Gc Gh
      repeat refine pw_seq ?_
      refine pw_ct (by simp) ?_
      repeat refine pw_seq ?_
      refine pw_N [] (by rfl) (by rfl) fun K Gc Gh hK hGc hGh X hX0 hX => ?_
      simp -implicitDefEqProofs [hX0, hX]
      try clear hX0 hX X
      intros
      refine hK _ _ _ ?_
      clear hK hGc hGh
      clear K Gc Gh
      repeat refine pw_seq ?_
      exact pw_ret (ret_pure hd (by simp; rfl) (by simp [hx, oneOf]))
  | 2, _, hk1, hk2 =>
    repeat refine pw_seq ?_
    refine pw_N [] (by rfl) (by rfl) fun K Gc Gh hK hGc hGh X hX0 hX => ?_
    simp -implicitDefEqProofs [hX0, hX]
    try clear hX0 hX X
    intros
    refine hK _ _ _ ?_
    clear hK hGc hGh
    clear K Gc Gh
    repeat refine pw_seq ?_
    refine pw_cf (by simp) ?_
    refine pw_exit ?_
    repeat refine pw_seq ?_
    refine pw_N [] (by rfl) (by rfl) fun K Gc Gh hK hGc hGh X hX0 hX => ?_
    simp -implicitDefEqProofs [hX0, hX]
    try clear hX0 hX X
    intros
    refine hK _ _ _ ?_
    clear hK hGc hGh
    clear K Gc Gh
    repeat refine pw_seq ?_
    exact pw_ret (ret_pure hd (by simp; rfl) (by simp [hk1 (by omega), hk2 (by omega), oneOf]))

set_option maxRecDepth 20000 in
theorem sorted1_ok (l : List Int) (i j : Fin l.length) (_ : l.length ≤ 1048576) : Pure Tryz.prog 158 [I i.val, I j.val, .ip [L l]] (I (cfW l i j)) := by
  obtain ⟨a, tl, a1, a2, a3, e0⟩ := el1 rfl l i.val i.isLt
  obtain ⟨b, tl2, b1, b2, b3, e1⟩ := el1 rfl l j.val j.isLt
  have hi := i.isLt
  have hj := j.isLt
  have ha : l.getD i.val 0 = a := by rw [List.getD_eq_getElem?_getD, a1]; rfl
  have hb : l.getD j.val 0 = b := by rw [List.getD_eq_getElem?_getD, b1]; rfl
  have hor := or2_ok (cmp3 a b) (cmp3 i.val j.val)
  have hres : cfW l i j = if cmp3 a b = 0 then cmp3 (i.val : Int) j.val else cmp3 a b := by unfold cfW; rw [ha, hb]
  rw [hres]
  refine pure_enter Tryz.func158 (by rfl) rfl Tryz.ntmps158 (congrArg Array.toList Tryz.results158) (by simp) fun S nx hd => ?_
  repeat refine pw_seq ?_
  refine pw_N [] (by rfl) (by rfl) fun K Gc Gh hK hGc hGh X hX0 hX => ?_
  simp -implicitDefEqProofs [hX0, hX]
  try clear hX0 hX X
  intros
  refine hK _ _ _ ?_
  clear hK hGc hGh
  clear K Gc Gh
  repeat refine pw_seq ?_
  refine pw_Y none (Row.pures [0, 1, 2, 3, 4, 5, 6, 7, 8, 9, 10, 11, 12, 13, 14] .done) mixed (by rfl) (by rfl) (by rfl) fun K Gp Gc Gh hK hGp hGc hGh X hX0 hX1 hX2 hX => ?_
  simp -implicitDefEqProofs [hX2, hi, hj, e0, e1]
  try clear hX0 hX1 hX2 hX X
  refine hGp _ _ _ _ _ _ _ _ (compare_ok a b) ?_
  clear hGp hGc hGh
  clear Gp Gc Gh
  refine px_go fun Gp Gc Gh hGp hGc hGh X hX0 hX1 hX2 hX => ?_
  simp -implicitDefEqProofs [hX2]
  try clear hX0 hX1 hX2 hX X
  refine hGp _ _ _ _ _ _ _ _ (compare_ok i.val j.val) ?_
  clear hGp hGc hGh
  clear Gp Gc Gh
  refine px_go fun Gp Gc Gh hGp hGc hGh X hX0 hX1 hX2 hX => ?_
  simp -implicitDefEqProofs [hX2]
  try clear hX0 hX1 hX2 hX X
  refine hGp _ _ _ _ _ _ _ _ (hor) ?_
  clear hGp hGc hGh
  clear Gp Gc Gh
  refine px_go fun Gp Gc Gh hGp hGc hGh X hX0 hX1 hX2 hX => ?_
  simp -implicitDefEqProofs [hX0, hX2]
  try clear hX0 hX1 hX2 hX X
  refine hK _ _ _ ?_
  clear hK hGp hGc hGh
  clear K Gp Gc Gh
  repeat refine pw_seq ?_
  exact pw_ret (ret_pure hd (by simp; rfl) rfl)

theorem flat_I1 (l : List Int) : l.flatMap Enc.enc = l.map I := by induction l <;> simp_all
theorem fz_row (l : List Int) : ∀ p ∈ [PV.ip [L l]], Fz p := by
  intro p hp
  simp only [List.mem_singleton] at hp
  subst hp
  refine .ip fun q hq => ?_
  simp only [List.mem_singleton] at hq
  subst hq
  refine .lst fun r hr => ?_
  rw [flat_I1] at hr
  obtain ⟨x, _, rfl⟩ := List.mem_map.1 hr
  exact .sc _

/-- The first k places told, the others 0. -/
def idxTo (n k : Nat) : List Int := (List.range n).map fun i => if i < k then (i : Int) else 0
theorem idxTo_len (n k : Nat) : (idxTo n k).length = n := by simp [idxTo]
theorem idxTo_zero (n : Nat) : idxTo n 0 = List.replicate n 0 := by
  apply List.ext_getElem
  · simp [idxTo]
  · intro i h1 h2; simp [idxTo]
theorem idxTo_succ (n k : Nat) (_ : k < n) : (idxTo n k).set k (k : Int) = idxTo n (k + 1) := by
  apply List.ext_getElem
  · simp [idxTo]
  · intro i h1 h2
    rw [List.getElem_set]
    simp only [idxTo, List.getElem_map, List.getElem_range]
    by_cases e : k = i
    · subst e; rw [if_pos rfl, if_pos (by omega)]
    · rw [if_neg e]
      by_cases h3 : i < k
      · rw [if_pos h3, if_pos (by omega)]
      · rw [if_neg h3, if_neg (by omega)]
theorem idxTo_all (n : Nat) : idxTo n n = (List.finRange n).map fun x => (x.val : Int) := by
  apply List.ext_getElem
  · simp [idxTo]
  · intro i h1 h2
    have : i < n := by simpa [idxTo] using h1
    simp [idxTo, this]
theorem flat_I {α : Type} (l : List α) (f : α → Int) : (l.map f).flatMap Enc.enc = l.map fun x => I (f x) := by induction l <;> simp_all

theorem zeros_I (n : Nat) : zerosP n (.int .i64 0) = (List.replicate n (0 : Int)).flatMap Enc.enc := by
  induction n with
  | zero => simp
  | succ n ih => rw [zerosP_succ', ih, List.replicate_succ]; simp [zeroCellsOf, Value.cells]
theorem splice_I (l : List Int) (k : Nat) (v : Int) (h : k < l.length) : splice (l.flatMap Enc.enc) k [I v] = (l.set k v).flatMap Enc.enc := by
  rw [flat_I1, flat_I1, splice, List.map_set, List.set_eq_take_append_cons_drop, if_pos (by simpa using h)]
  simp

set_option maxRecDepth 20000 in
theorem sortedH_ok (l : List Int) (hn : l.length ≤ 1048576) : Pure Tryz.prog 144 [L l] (L (sortI l)) := by
  have hE : Enters Tryz.prog 157 := enters_of Tryz.func157 (by rfl) rfl
  have hG : Enters Tryz.prog 158 := enters_of Tryz.func158 (by rfl) rfl
  refine pure_enter Tryz.func144 (by rfl) rfl Tryz.ntmps144 (congrArg Array.toList Tryz.results144) (by simp) fun S nx hd => ?_
  repeat refine pw_seq ?_
  refine pw_N [] (by rfl) (by rfl) fun K Gc Gh hK hGc hGh X hX0 hX => ?_
  simp -implicitDefEqProofs [hX0, hX]
  try clear hX0 hX X
  intro v0
  refine hK _ _ _ ?_
  clear hK hGc hGh
  clear K Gc Gh
  repeat refine pw_seq ?_
  refine pw_N [] (by rfl) (by rfl) fun K Gc Gh hK hGc hGh X hX0 hX => ?_
  simp -implicitDefEqProofs [hX0, hX]
  try clear hX0 hX X
  refine ⟨by omega, fun v1 => ?_⟩
  intros
  refine hK _ _ _ ?_
  clear hK hGc hGh
  clear K Gc Gh
  repeat refine pw_seq ?_
  refine pw_N [] (by rfl) (by rfl) fun K Gc Gh hK hGc hGh X hX0 hX => ?_
  simp -implicitDefEqProofs [hX0, hX]
  try clear hX0 hX X
  intros
  refine hK _ _ _ ?_
  clear hK hGc hGh
  clear K Gc Gh
  repeat refine pw_seq ?_
  refine pw_block (pw_loopL (fun s : Nat => s ≤ l.length) (fun k => [(1, .ptr nx v0 0), (3, .sl (nx + 1) v1 1 0 l.length), (9, I l.length), (10, I k)]) (fun k => [.cells v0 62 [L l], .cells v1 3 ((idxTo l.length k).flatMap Enc.enc)]) (fun s => l.length - s) 0 [] (by simp) (by simp) (by simp [idxTo_zero, zeros_I]) ?_)
  rintro k hk
  repeat refine pw_seq ?_
  refine pw_N [] (by rfl) (by rfl) fun K Gc Gh hK hGc hGh X hX0 hX => ?_
  simp -implicitDefEqProofs [hX0, hX]
  try clear hX0 hX X
  intros
  refine hK _ _ _ ?_
  clear hK hGc hGh
  clear K Gc Gh
  repeat refine pw_seq ?_
  refine pw_cond rfl (fun hc => ?_) (fun hc => ?_)
  · simp at hc
    have hl1 := idxTo_len l.length k
    have hsp := splice_I (idxTo l.length k) k k (by omega)
    rw [idxTo_succ _ _ hc] at hsp
    refine pw_skip (pw_seq (pw_block ?_))
    repeat refine pw_seq ?_
    refine pw_N [] (by rfl) (by rfl) fun K Gc Gh hK hGc hGh X hX0 hX => ?_
    simp -implicitDefEqProofs [hX0, hX]
    try clear hX0 hX X
    intros
    refine hK _ _ _ ?_
    clear hK hGc hGh
    clear K Gc Gh
    repeat refine pw_seq ?_
    refine pw_N [] (by rfl) (by rfl) fun K Gc Gh hK hGc hGh X hX0 hX => ?_
    simp -implicitDefEqProofs [hX0, hX, hc, hl1, hsp]
    try clear hX0 hX X
    refine ⟨by omega, ?_⟩
    intros
    refine hK _ _ _ ?_
    clear hK hGc hGh
    clear K Gc Gh
    repeat refine pw_seq ?_
    refine pw_N [] (by rfl) (by rfl) fun K Gc Gh hK hGc hGh X hX0 hX => ?_
    simp -implicitDefEqProofs [hX0, hX]
    try clear hX0 hX X
    intros
    refine hK _ _ _ ?_
    clear hK hGc hGh
    clear K Gc Gh
    exact again_mk (k + 1) [] hc (by omega) (by simp [wrN k (by omega)]) rfl (by simp)
  · simp at hc
    obtain rfl : k = l.length := by omega
    refine pw_exit ?_
    rw [idxTo_all, flat_I]
    refine pw_frq 0 rfl ?_
    repeat refine pw_seq ?_
    refine pw_N [] (by rfl) (by rfl) fun K Gc Gh hK hGc hGh X hX0 hX => ?_
    simp -implicitDefEqProofs [hX]
    try clear hX0 hX X
    by_cases h0 : l.length = 0
    · obtain rfl : l = [] := List.eq_nil_of_length_eq_zero h0
      refine hGc _ _ _ _ _ _ _ fun hsuf => ((sortF_none Tryz.laysSlF6_f157 hE).mono ?_).v
      rintro _ _ rfl
      refine ⟨_, _, rfl, ?_⟩
      clear hGc hGh
      clear Gc Gh
      refine xs_go hsuf (D := []) (by rfl) fun Gc Gh hGc hGh X hX0 hX => ?_
      simp -implicitDefEqProofs [hX0]
      clear hX0 hX X
      intros
      refine hK _ _ _ ?_
      clear hK hGc hGh
      clear K Gc Gh
      refine pw_frz 1 rfl ?_
      repeat refine pw_seq ?_
      refine pw_N [] (by rfl) (by rfl) fun K Gc Gh hK hGc hGh X hX0 hX => ?_
      simp -implicitDefEqProofs [hX0, hX]
      try clear hX0 hX X
      intros
      refine hK _ _ _ ?_
      clear hK hGc hGh
      clear K Gc Gh
      have hs0 : sortI [] = [] := List.eq_nil_of_length_eq_zero (sortI_len [])
      repeat refine pw_seq ?_
      exact pw_ret (ret_pure hd (by simp; rfl) (by rw [hs0]; rfl))
    · haveI : Inhabited (Fin l.length) := ⟨⟨0, by omega⟩⟩
      have hs := fun S id ver hid => sortF_ok (S := S) (id := id) (ver := ver) (e := 3) (val := fun i : Fin l.length => (i.val : Int)) Tryz.laysSlF6_f157 hE (List.finRange l.length) hid (by simp; omega) hG (fz_row l) (cfW l) (swo_cfW l) (tot_cfW l) (fun x y => sorted1_ok l x y hn)
      rw [List.length_finRange] at hs
      have hfl := flat_I (sortF l) (fun i => (i.val : Int))
      have hsl := sortI_len l
      refine hGc _ _ _ _ _ _ _ fun hsuf => ((hs _ (nx + 1) v1 (by rw [ext_at]; rfl)).mono ?_).v
      rintro _ _ rfl
      refine ⟨_, _, ext_set _ (by omega) (by simp), ?_⟩
      rw [show (((List.finRange l.length).mergeSort fun x y => !(ltOf (cfW l)) y x).map fun x => I (x.val : Int)) = (sortI l).flatMap Enc.enc from hfl.symm]
      clear hGc hGh
      clear Gc Gh
      refine xs_go hsuf (D := []) (by rfl) fun Gc Gh hGc hGh X hX0 hX => ?_
      simp -implicitDefEqProofs [hX0, (show nx + 1 - nx = 1 from by omega)]
      clear hX0 hX X
      intros
      refine hK _ _ _ ?_
      clear hK hGc hGh
      clear K Gc Gh
      refine pw_frz 1 rfl ?_
      repeat refine pw_seq ?_
      refine pw_N [] (by rfl) (by rfl) fun K Gc Gh hK hGc hGh X hX0 hX => ?_
      simp -implicitDefEqProofs [hX0, hX, hsl]
      try clear hX0 hX X
      intros
      refine hK _ _ _ ?_
      clear hK hGc hGh
      clear K Gc Gh
      repeat refine pw_seq ?_
      exact pw_ret (ret_pure hd (by simp; rfl) (by simp [oneOf, hsl]))

end Go.Proofs.YtafcjklojnhbnaaGreat.Pv
