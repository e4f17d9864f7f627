/- Ways. -/
import Derived.Test.YtafcjklojnhbnaaGreatIa
namespace Go.Proofs.YtafcjklojnhbnaaGreat.Pv
open Go

def wayS (x : Inst) : Int → List Int → Int
  | a, [] => arc x a 0
  | a, c :: l => arc x a (c + 1) + wayS x (c + 1) l
def wayZ (x : Inst) (l : List Int) : Int := if l = [] then 0 else wayS x 0 l

def small (c : Int) : Prop := -4611686018427387904 ≤ c ∧ c ≤ 4611686018427387904
theorem small_wr {c : Int} (h : small c) : IntKind.i64.wrap (c + 1) = c + 1 := wr _ (by unfold small at h; omega) (by unfold small at h; omega)

set_option maxRecDepth 10000 in
theorem wayP_ok (x : Inst) (l : List Int) (hl : l.length ≤ 1048576) (hs : ∀ c ∈ l, small c) : Pure Tryz.prog 96 [.agg (instL x), L l] (I (W (wayZ x l))) := by
  refine pure_enter Tryz.func96 (by rfl) rfl Tryz.ntmps96 (congrArg Array.toList Tryz.results96) (by simp) fun S nx hd => ?_
  repeat refine pw_seq ?_
  refine pw_N [] (by rfl) (by rfl) fun K Gc Gh hK hGc hGh X hX0 hX => ?_
  simp -implicitDefEqProofs [hX0, hX]
  try clear hX0 hX X
  intro v0
  refine hK _ _ _ ?_
  clear hK hGc hGh
  clear K Gc Gh
  repeat refine pw_seq ?_
  refine pw_N [] (by rfl) (by rfl) fun K Gc Gh hK hGc hGh X hX0 hX => ?_
  simp -implicitDefEqProofs [hX0, hX]
  try clear hX0 hX X
  intros
  refine hK _ _ _ ?_
  clear hK hGc hGh
  clear K Gc Gh
  repeat refine pw_seq ?_
  refine pw_cond rfl (fun hc => ?_) (fun hc => ?_)
  · simp at hc
    subst hc
    repeat refine pw_seq ?_
    refine pw_N [] (by rfl) (by rfl) fun K Gc Gh hK hGc hGh X hX0 hX => ?_
    simp -implicitDefEqProofs [hX0, hX]
    try clear hX0 hX X
    intros
    refine hK _ _ _ ?_
    clear hK hGc hGh
    clear K Gc Gh
    repeat refine pw_seq ?_
    exact pw_ret (ret_pure hd rfl rfl)
  refine pw_skip ?_
  simp at hc
  repeat refine pw_seq ?_
  refine pw_N [] (by rfl) (by rfl) fun K Gc Gh hK hGc hGh X hX0 hX => ?_
  simp -implicitDefEqProofs [hX0, hX]
  try clear hX0 hX X
  intros
  refine hK _ _ _ ?_
  clear hK hGc hGh
  clear K Gc Gh
  repeat refine pw_seq ?_
  refine pw_N [] (by rfl) (by rfl) fun K Gc Gh hK hGc hGh X hX0 hX => ?_
  simp -implicitDefEqProofs [hX0, hX]
  try clear hX0 hX X
  intros
  refine hK _ _ _ ?_
  clear hK hGc hGh
  clear K Gc Gh
  repeat refine pw_seq ?_
  refine pw_block (pw_loopL (fun s : Nat × Int × Int × Nat => s.1 ≤ l.length ∧ s.2.1 + wayS x s.2.2.1 (l.drop s.1) = wayS x 0 l) (fun (k, s, at', v) => [(2, .ptr nx v 0), (5, I (W s)), (6, I at'), (12, L l), (13, I l.length), (14, I k)])
    (fun (k, s, at', v) => [.cells v 25 (instL x)]) (fun s => l.length - s.1) (0, 0, 0, v0) [] (by simp) (by simp) (by simp) ?_)
  rintro ⟨k, s, at', v⟩ ⟨hk, ho⟩
  simp only at hk ho ⊢
  repeat refine pw_seq ?_
  refine pw_N [] (by rfl) (by rfl) fun K Gc Gh hK hGc hGh X hX0 hX => ?_
  simp -implicitDefEqProofs [hX0, hX]
  try clear hX0 hX X
  intros
  refine hK _ _ _ ?_
  clear hK hGc hGh
  clear K Gc Gh
  repeat refine pw_seq ?_
  refine pw_cond rfl (fun hq => ?_) (fun hq => ?_)
  · simp at hq
    obtain ⟨c, tl, a1, a2, a3, e0⟩ := el1 rfl l k hq
    have hw := small_wr (hs c (List.mem_of_getElem? a1))
    rw [a2] at ho
    refine pw_skip (pw_seq (pw_block ?_))
    repeat refine pw_seq ?_
    refine pw_N [] (by rfl) (by rfl) fun K Gc Gh hK hGc hGh X hX0 hX => ?_
    simp -implicitDefEqProofs [hX0, hX, hq, e0]
    try clear hX0 hX X
    intros
    refine hK _ _ _ ?_
    clear hK hGc hGh
    clear K Gc Gh
    repeat refine pw_seq ?_
    refine pw_N [] (by rfl) (by rfl) fun K Gc Gh hK hGc hGh X hX0 hX => ?_
    simp -implicitDefEqProofs [hX, hw]
    try clear hX0 hX X
    refine hGc _ _ _ _ _ _ _ fun hsuf => ((arcP_ok _ _ _ _).mono ?_).v
    rintro _ _ ⟨rfl, rfl⟩
    refine ⟨_, _, rfl, ?_⟩
    clear hGc hGh
    clear Gc Gh
    refine xs_go hsuf (D := []) (by rfl) fun Gc Gh hGc hGh X hX0 hX => ?_
    simp -implicitDefEqProofs [hX0, hX]
    try clear hX0 hX X
    intros
    refine hK _ _ _ ?_
    clear hK hGc hGh
    clear K Gc Gh
    repeat refine pw_seq ?_
    refine pw_N [] (by rfl) (by rfl) fun K Gc Gh hK hGc hGh X hX0 hX => ?_
    simp -implicitDefEqProofs [hX0, hX, hw]
    try clear hX0 hX X
    intros
    refine hK _ _ _ ?_
    clear hK hGc hGh
    clear K Gc Gh
    repeat refine pw_seq ?_
    refine pw_N [] (by rfl) (by rfl) fun K Gc Gh hK hGc hGh X hX0 hX => ?_
    simp -implicitDefEqProofs [hX0, hX]
    try clear hX0 hX X
    intros
    refine hK _ _ _ ?_
    clear hK hGc hGh
    clear K Gc Gh
    exact again_mk (k + 1, s + arc x at' (c + 1), c + 1, v) [] (by simp only [wayS] at ho; exact ⟨by omega, by rw [← ho]; simp; omega⟩) (by simp; omega) (by simp [wrN k (by omega), W_add]) rfl (by simp)
  · simp at hq
    refine pw_exit ?_
    repeat refine pw_seq ?_
    refine pw_N [] (by rfl) (by rfl) fun K Gc Gh hK hGc hGh X hX0 hX => ?_
    simp -implicitDefEqProofs [hX]
    try clear hX0 hX X
    refine hGc _ _ _ _ _ _ _ fun hsuf => ((arcP_ok _ _ _ _).mono ?_).v
    rintro _ _ ⟨rfl, rfl⟩
    refine ⟨_, _, rfl, ?_⟩
    clear hGc hGh
    clear Gc Gh
    refine xs_go hsuf (D := []) (by rfl) fun Gc Gh hGc hGh X hX0 hX => ?_
    simp -implicitDefEqProofs [hX0, hX]
    try clear hX0 hX X
    intros
    refine hK _ _ _ ?_
    clear hK hGc hGh
    clear K Gc Gh
    rw [List.drop_of_length_le hq] at ho
    repeat refine pw_seq ?_
    exact pw_ret (ret_pure hd rfl (by simp only [wayZ, if_neg hc, ← ho, wayS, oneOf]; simp [W_add]))

set_option maxRecDepth 10000 in
theorem wayR_ok (x : Inst) (l : List Int) (hl : l.length ≤ 1048576) (hs : ∀ c ∈ l, small c) : Pure Tryz.prog 44 [.agg (instL x), L l] (I (W (wayZ x l))) := by
  refine pure_enter Tryz.func44 (by rfl) rfl Tryz.ntmps44 (congrArg Array.toList Tryz.results44) (by simp) fun S nx hd => ?_
  repeat refine pw_seq ?_
  refine pw_N [] (by rfl) (by rfl) fun K Gc Gh hK hGc hGh X hX0 hX => ?_
  simp -implicitDefEqProofs [hX0, hX]
  try clear hX0 hX X
  intro v0
  refine hK _ _ _ ?_
  clear hK hGc hGh
  clear K Gc Gh
  repeat refine pw_seq ?_
  refine pw_N [] (by rfl) (by rfl) fun K Gc Gh hK hGc hGh X hX0 hX => ?_
  simp -implicitDefEqProofs [hX0, hX]
  try clear hX0 hX X
  intros
  refine hK _ _ _ ?_
  clear hK hGc hGh
  clear K Gc Gh
  repeat refine pw_seq ?_
  refine pw_cond rfl (fun hc => ?_) (fun hc => ?_)
  · simp at hc
    subst hc
    repeat refine pw_seq ?_
    refine pw_N [] (by rfl) (by rfl) fun K Gc Gh hK hGc hGh X hX0 hX => ?_
    simp -implicitDefEqProofs [hX0, hX]
    try clear hX0 hX X
    intros
    refine hK _ _ _ ?_
    clear hK hGc hGh
    clear K Gc Gh
    repeat refine pw_seq ?_
    exact pw_ret (ret_pure hd rfl rfl)
  refine pw_skip ?_
  simp at hc
  cases l with
  | nil => exact absurd rfl hc
  | cons c0 l0 =>
  have hw0 := small_wr (hs c0 (by simp))
  obtain ⟨cl, tl, a1, a2, a3, e0⟩ := el1 rfl (c0 :: l0) l0.length (by simp)
  simp only [List.flatMap_cons, enc_int, List.cons_append, List.nil_append] at e0
  have lt1 : (l0.length : Int) < l0.length + 1 := by omega
  have hwl := small_wr (hs cl (List.mem_of_getElem? a1))
  have wl : IntKind.i64.wrap (l0.length : Int) = (l0.length : Int) := wr _ (by omega) (by simp at hl; omega)
  repeat refine pw_seq ?_
  refine pw_Y none (Row.pures [0, 1, 2, 3, 4, 5, 6, 7, 8, 9, 10, 11, 12, 13, 14, 15, 16] .done) mixed (by rfl) (by rfl) (by rfl) fun K Gp Gc Gh hK hGp hGc hGh X hX0 hX1 hX2 hX => ?_
  simp -implicitDefEqProofs [hX2, hw0]
  try clear hX0 hX1 hX2 hX X
  refine hGp _ _ _ _ _ _ _ _ (arcR_ok _ _ _) ?_
  clear hGp hGc hGh
  clear Gp Gc Gh
  refine px_go fun Gp Gc Gh hGp hGc hGh X hX0 hX1 hX2 hX => ?_
  simp -implicitDefEqProofs [hX2, wl, e0, hwl, lt1]
  try clear hX0 hX1 hX2 hX X
  refine hGp _ _ _ _ _ _ _ _ (arcR_ok _ _ _) ?_
  clear hGp hGc hGh
  clear Gp Gc Gh
  refine px_go fun Gp Gc Gh hGp hGc hGh X hX0 hX1 hX2 hX => ?_
  simp -implicitDefEqProofs [hX0, hX2]
  try clear hX0 hX1 hX2 hX X
  refine hK _ _ _ ?_
  clear hK hGp hGc hGh
  clear K Gp Gc Gh
  repeat refine pw_seq ?_
  refine pw_N [] (by rfl) (by rfl) fun K Gc Gh hK hGc hGh X hX0 hX => ?_
  simp -implicitDefEqProofs [hX0, hX]
  try clear hX0 hX X
  intros
  refine hK _ _ _ ?_
  clear hK hGc hGh
  clear K Gc Gh
  generalize hll : c0 :: l0 = l at *
  have hlen : l.length = l0.length + 1 := by rw [← hll]; rfl
  have hL : (PV.lst (l0.length + 1) (I c0 :: l0.flatMap Enc.enc)) = L l := by rw [← hll]; rfl
  repeat refine pw_seq ?_
  refine pw_block (pw_loopL (fun s : Nat × Int × Int × Nat => s.1 + 1 ≤ l.length ∧ l[s.1]? = some s.2.2.1 ∧ s.2.1 + wayS x (s.2.2.1 + 1) (l.drop (s.1 + 1)) = wayS x 0 l + arc x (cl + 1) 0) (fun (j, s, p, v) => [(1, L l), (2, .ptr nx v 0), (5, I (W s)), (6, I ((j + 1 : Nat) : Int))])
    (fun (j, s, p, v) => [.cells v 25 (instL x)]) (fun s => l.length - s.1) (0, arc x 0 (c0 + 1) + arc x (cl + 1) 0, c0, v0) [] (by rw [← hll]; simp [wayS]; omega) (by simp) (by simp) ?_)
  rintro ⟨j, s, p, v⟩ ⟨hk, hp, ho⟩
  simp only at hk ho hp ⊢
  repeat refine pw_seq ?_
  refine pw_N [] (by rfl) (by rfl) fun K Gc Gh hK hGc hGh X hX0 hX => ?_
  simp -implicitDefEqProofs [hX0, hX]
  try clear hX0 hX X
  intros
  refine hK _ _ _ ?_
  clear hK hGc hGh
  clear K Gc Gh
  repeat refine pw_seq ?_
  refine pw_cond rfl (fun hq => ?_) (fun hq => ?_)
  · simp at hq
    have hq' : j + 1 < l.length := by omega
    obtain ⟨c, tl1, b1, b2, b3, e1⟩ := el1 rfl l (j + 1) hq'
    obtain ⟨p', tl2, d1, d2, d3, e2⟩ := el1 rfl l j (by omega)
    rw [hp] at d1; cases d1
    have hwc := small_wr (hs c (List.mem_of_getElem? b1))
    have hwp := small_wr (hs p (List.mem_of_getElem? hp))
    have wj : IntKind.i64.wrap (j : Int) = j := wr _ (by omega) (by omega)
    have g1 : (j : Int) < l.length := by omega
    have g2 : (j : Int) + 1 < l.length := by omega
    have g3 : 0 ≤ (j : Int) + 1 := by omega
    rw [b2] at ho
    refine pw_skip (pw_seq (pw_block ?_))
    repeat refine pw_seq ?_
    refine pw_Y none (Row.pures [0, 1, 2, 3, 4, 5, 6, 7, 8, 9, 10, 11, 12, 13, 14, 15] .done) mixed (by rfl) (by rfl) (by rfl) fun K Gp Gc Gh hK hGp hGc hGh X hX0 hX1 hX2 hX => ?_
    simp -implicitDefEqProofs [hX2, hwc, hwp, wj, e1, e2, g1, g2, g3]
    try clear hX0 hX1 hX2 hX X
    refine hGp _ _ _ _ _ _ _ _ (arcR_ok _ _ _) ?_
    clear hGp hGc hGh
    clear Gp Gc Gh
    refine px_go fun Gp Gc Gh hGp hGc hGh X hX0 hX1 hX2 hX => ?_
    simp -implicitDefEqProofs [hX0, hX2]
    try clear hX0 hX1 hX2 hX X
    refine hK _ _ _ ?_
    clear hK hGp hGc hGh
    clear K Gp Gc Gh
    have w2 : IntKind.i64.wrap ((j : Int) + 1 + 1) = ((j + 1 + 1 : Nat) : Int) := by rw [wr _ (by omega) (by omega)]; omega
    repeat refine pw_seq ?_
    refine pw_N [] (by rfl) (by rfl) fun K Gc Gh hK hGc hGh X hX0 hX => ?_
    simp -implicitDefEqProofs [hX0, hX]
    try clear hX0 hX X
    intros
    refine hK _ _ _ ?_
    clear hK hGc hGh
    clear K Gc Gh
    exact again_mk (j + 1, s + arc x (p + 1) (c + 1), c, v) [] (by simp only [wayS] at ho; exact ⟨by omega, b1, by rw [← ho]; simp; omega⟩) (by simp; omega) (by simp [w2, W_add]) rfl (by simp)
  · simp at hq
    refine pw_exit ?_
    repeat refine pw_seq ?_
    refine pw_N [] (by rfl) (by rfl) fun K Gc Gh hK hGc hGh X hX0 hX => ?_
    simp -implicitDefEqProofs [hX0, hX]
    try clear hX0 hX X
    intros
    refine hK _ _ _ ?_
    clear hK hGc hGh
    clear K Gc Gh
    rw [List.drop_of_length_le (by omega)] at ho
    have hpc : p = cl := by
      have : j = l0.length := by omega
      subst this; rw [hp] at a1; cases a1; rfl
    subst hpc
    have hs' : s = wayS x 0 l := by simp only [wayS] at ho; omega
    repeat refine pw_seq ?_
    exact pw_ret (ret_pure hd rfl (by simp [wayZ, hc, hs']))

end Go.Proofs.YtafcjklojnhbnaaGreat.Pv
