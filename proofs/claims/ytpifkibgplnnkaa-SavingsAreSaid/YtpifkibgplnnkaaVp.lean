/- The law SavingsAre: what it computes. -/
import Derived.Test.YtpifkibgplnnkaaVo
namespace Go.Proofs.Ytpifkibgplnnkaa.Pv
open Go Hp

set_option maxRecDepth 20000 in
set_option maxHeartbeats 1600000 in
theorem savingsAre_ok (x : Inst) (l : List Stop) (at_ : Int) (hx : InstOk x) (hl : l.length ≤ 9223372036854775807) (hs : ∀ s ∈ l, StopOk s) (hat : I64 at_) : Pure Try.prog 6 [.agg (instL x), L l, I at_] (B true) := by
  have hc := goodI_cust' x
  have hg := goods_of (n := (goodI x).cust.length) hs
  have hS := goodS_ok (goodI x) l hl hc hs
  have hA := goodI_arc x
  have hG := goodI_ok x hx
  generalize goodI x = y at *
  generalize goodL (y.cust.length) [] l = g at *
  have hsm := goods_small hg (by omega)
  have hg6 := hg.len
  refine pure_enter Try.func6 (by rfl) rfl Try.ntmps6 (congrArg Array.toList Try.results6) (by simp) fun S nx hd => ?_
  repeat refine pw_seq ?_
  refine pw_N [] (by rfl) (by rfl) fun K Gc Gh hK hGc hGh X hX0 hX => ?_
  simp -implicitDefEqProofs [hX0, hX]
  try clear hX0 hX X
  intro v0
  refine hK _ _ _ ?_
  clear hK hGc hGh
  clear K Gc Gh
  repeat refine pw_seq ?_
  refine pw_N [] (by rfl) (by rfl) fun K Gc Gh hK hGc hGh X hX0 hX => ?_
  simp -implicitDefEqProofs [hX]
  try clear hX0 hX X
  refine hGc _ _ _ _ _ _ _ fun hsuf => ((hG _).mono ?_).v
  rintro _ _ ⟨rfl, rfl⟩
  refine ⟨_, _, rfl, ?_⟩
  clear hGc hGh
  clear Gc Gh
  refine xs_go hsuf (D := []) (by rfl) fun Gc Gh hGc hGh X hX0 hX => ?_
  simp -implicitDefEqProofs [hX0, hX]
  try clear hX0 hX X
  intro v1
  intros
  refine hK _ _ _ ?_
  clear hK hGc hGh
  clear K Gc Gh
  repeat refine pw_seq ?_
  refine pw_N [] (by rfl) (by rfl) fun K Gc Gh hK hGc hGh X hX0 hX => ?_
  simp -implicitDefEqProofs [hX]
  try clear hX0 hX X
  refine hGc _ _ _ _ _ _ _ fun hsuf => ((hS _).mono ?_).v
  rintro _ _ ⟨rfl, rfl⟩
  refine ⟨_, _, rfl, ?_⟩
  clear hGc hGh
  clear Gc Gh
  refine xs_go hsuf (D := []) (by rfl) fun Gc Gh hGc hGh X hX0 hX => ?_
  simp -implicitDefEqProofs [hX0, hX]
  try clear hX0 hX X
  intros
  refine hK _ _ _ ?_
  clear hK hGc hGh
  clear K Gc Gh
  by_cases h1 : at_ < 1
  · repeat refine pw_seq ?_
    refine pw_N [(2, 18)] (by rfl) (by rfl) fun K Gc Gh hK hGc hGh X hX0 hX => ?_
    simp -implicitDefEqProofs [hX0, hX, h1, undef]
    try clear hX0 hX X
    intros
    refine hK _ _ _ ?_
    clear hK hGc hGh
    clear K Gc Gh
    repeat refine pw_seq ?_
    refine pw_ct rfl ?_
    repeat refine pw_seq ?_
    refine pw_N [] (by rfl) (by rfl) fun K Gc Gh hK hGc hGh X hX0 hX => ?_
    simp -implicitDefEqProofs [hX]
    try clear hX0 hX X
    refine hGc _ _ _ _ _ _ _ fun hsuf => ((lives13_ok _).mono ?_).v
    rintro _ _ ⟨rfl, rfl⟩
    refine ⟨_, _, rfl, ?_⟩
    clear hGc hGh
    clear Gc Gh
    refine xs_go hsuf (D := []) (by rfl) fun Gc Gh hGc hGh X hX0 hX => ?_
    simp -implicitDefEqProofs [hX0, hX]
    try clear hX0 hX X
    intros
    refine hK _ _ _ ?_
    clear hK hGc hGh
    clear K Gc Gh
    repeat refine pw_seq ?_
    exact pw_ret (ret_pure hd rfl rfl)
  by_cases h2 : (g.length : Int) ≤ at_
  · repeat refine pw_seq ?_
    refine pw_N [(2, 18)] (by rfl) (by rfl) fun K Gc Gh hK hGc hGh X hX0 hX => ?_
    simp -implicitDefEqProofs [hX0, hX, h1, h2, undef]
    try clear hX0 hX X
    intros
    refine hK _ _ _ ?_
    clear hK hGc hGh
    clear K Gc Gh
    repeat refine pw_seq ?_
    refine pw_ct rfl ?_
    repeat refine pw_seq ?_
    refine pw_N [] (by rfl) (by rfl) fun K Gc Gh hK hGc hGh X hX0 hX => ?_
    simp -implicitDefEqProofs [hX]
    try clear hX0 hX X
    refine hGc _ _ _ _ _ _ _ fun hsuf => ((lives13_ok _).mono ?_).v
    rintro _ _ ⟨rfl, rfl⟩
    refine ⟨_, _, rfl, ?_⟩
    clear hGc hGh
    clear Gc Gh
    refine xs_go hsuf (D := []) (by rfl) fun Gc Gh hGc hGh X hX0 hX => ?_
    simp -implicitDefEqProofs [hX0, hX]
    try clear hX0 hX X
    intros
    refine hK _ _ _ ?_
    clear hK hGc hGh
    clear K Gc Gh
    repeat refine pw_seq ?_
    exact pw_ret (ret_pure hd rfl rfl)
  obtain ⟨j, rfl⟩ : ∃ j : Nat, at_ = ((j + 1 : Nat) : Int) := ⟨(at_ - 1).toNat, by omega⟩
  have hj : j + 1 < g.length := by omega
  have hcus := custR_ok g (by omega)
  obtain ⟨al, hal⟩ : ∃ al, al = g.map (·.c) := ⟨_, rfl⟩
  have hall : al.length = g.length := by rw [hal]; simp
  have hasm : ∀ c ∈ al, small c := by
    intro c hc'; rw [hal] at hc'; obtain ⟨s, h3, rfl⟩ := List.mem_map.1 hc'; exact hsm s h3
  rw [← hal] at hcus
  obtain ⟨u, tu, u1, u2, u3, u0⟩ := el1 rfl al j (by omega)
  obtain ⟨v, tv, w1, w2, w3, w0⟩ := el1 rfl al (j + 1) (by omega)
  have hcut := wayZ_cut y al j u v u1 w1
  have hsv := savZ_le hA u v
  have hW0 := wayR_ok y al (by omega) hasm
  have hW1 := wayR_ok y (al.take (j + 1)) (by simp; omega) (fun c h => hasm c (List.mem_of_mem_take h))
  have hW2 := wayR_ok y (al.drop (j + 1)) (by simp; omega) (fun c h => hasm c (List.mem_of_mem_drop h))
  have hSv := savesP_ok y u v hA (hasm u (List.mem_of_getElem? u1)) (hasm v (List.mem_of_getElem? w1))
  have g1 : (al.flatMap Enc.enc).take (j + 1) = (al.take (j + 1)).flatMap Enc.enc := by have := flat_take Enc.enc 1 (fun _ : Int => rfl) al (j + 1); rwa [Nat.mul_one] at this
  have g2 : (al.flatMap Enc.enc).drop (j + 1) = (al.drop (j + 1)).flatMap Enc.enc := by have := flat_drop Enc.enc 1 (fun _ : Int => rfl) al (j + 1); rwa [Nat.mul_one] at this
  have h1' : ¬ (j : Int) + 1 < 1 := by omega
  have h2' : ¬ (g.length : Int) ≤ (j : Int) + 1 := by omega
  have h1n : ¬ (j : Int) < 0 := by omega
  repeat refine pw_seq ?_
  refine pw_N [(2, 18)] (by rfl) (by rfl) fun K Gc Gh hK hGc hGh X hX0 hX => ?_
  simp -implicitDefEqProofs [hX0, hX, h1', h2', undef]
  try clear hX0 hX X
  intros
  refine hK _ _ _ ?_
  clear hK hGc hGh
  clear K Gc Gh
  repeat refine pw_seq ?_
  refine pw_cf rfl ?_
  refine pw_skip ?_
  repeat refine pw_seq ?_
  refine pw_N [] (by rfl) (by rfl) fun K Gc Gh hK hGc hGh X hX0 hX => ?_
  simp -implicitDefEqProofs [hX]
  try clear hX0 hX X
  refine hGc _ _ _ _ _ _ _ fun hsuf => ((hcus _).mono ?_).v
  rintro _ _ ⟨rfl, rfl⟩
  refine ⟨_, _, rfl, ?_⟩
  clear hGc hGh
  clear Gc Gh
  refine xs_go hsuf (D := []) (by rfl) fun Gc Gh hGc hGh X hX0 hX => ?_
  simp -implicitDefEqProofs [hX0, hX]
  try clear hX0 hX X
  intros
  refine hK _ _ _ ?_
  clear hK hGc hGh
  clear K Gc Gh
  have h3 : j + 1 ≤ al.length := by omega
  have h5 : 0 ≤ (j : Int) + 1 := by omega
  have g3 : ((al.drop (j + 1)).flatMap Enc.enc).take (al.length - (j + 1)) = (al.drop (j + 1)).flatMap Enc.enc := List.take_of_length_le (by rw [flen_int]; simp)
  have k1 : (al.take (j + 1)).length = j + 1 := by simp; omega
  have k2 : (al.drop (j + 1)).length = al.length - (j + 1) := by simp
  rw [show L (al.take (j + 1)) = .lst (j + 1) ((al.take (j + 1)).flatMap Enc.enc) from by show PV.lst _ _ = _; rw [k1]] at hW1
  rw [show L (al.drop (j + 1)) = .lst (al.length - (j + 1)) ((al.drop (j + 1)).flatMap Enc.enc) from by show PV.lst _ _ = _; rw [k2]] at hW2
  repeat refine pw_seq ?_
  refine pw_Y none (Row.pures [0, 1, 2, 3, 4, 5, 6, 7, 8, 9, 10, 11] .done) mixed (by rfl) (by rfl) (by rfl) fun K Gp Gc Gh hK hGp hGc hGh X hX0 hX1 hX2 hX => ?_
  simp -implicitDefEqProofs [hX2, h3, g1, h5]
  try clear hX0 hX1 hX2 hX X
  refine hGp _ _ _ _ _ _ _ _ (hW1) ?_
  clear hGp hGc hGh
  clear Gp Gc Gh
  refine px_go fun Gp Gc Gh hGp hGc hGh X hX0 hX1 hX2 hX => ?_
  simp -implicitDefEqProofs [hX2, h3, g2, g3, h5]
  try clear hX0 hX1 hX2 hX X
  refine hGp _ _ _ _ _ _ _ _ (hW2) ?_
  clear hGp hGc hGh
  clear Gp Gc Gh
  refine px_go fun Gp Gc Gh hGp hGc hGh X hX0 hX1 hX2 hX => ?_
  simp -implicitDefEqProofs [hX0, hX2]
  try clear hX0 hX1 hX2 hX X
  refine hK _ _ _ ?_
  clear hK hGp hGc hGh
  clear K Gp Gc Gh
  have wj : IntKind.i64.wrap (j : Int) = j := wr _ (by omega) (by omega)
  have f1 : (j : Int) < al.length := by omega
  have f2 : (j : Int) + 1 < al.length := by omega
  have f3 : savZ y u v = W (W (W (wayZ y (al.take (j + 1))) + W (wayZ y (al.drop (j + 1)))) - W (wayZ y al)) := by
    rw [W_sub', W_add, W_add', W_sub, hcut]
    have : wayZ y (al.take (j + 1)) + wayZ y (al.drop (j + 1)) - (wayZ y (al.take (j + 1)) + wayZ y (al.drop (j + 1)) - savZ y u v) = savZ y u v := by omega
    rw [this]
    exact (wr _ (by omega) (by omega)).symm
  repeat refine pw_seq ?_
  refine pw_Y none (Row.pures [0, 1, 2, 3, 4, 5, 6, 7, 8, 9, 10, 11, 12, 13, 14, 15, 16, 17, 18, 19, 20] .done) mixed (by rfl) (by rfl) (by rfl) fun K Gp Gc Gh hK hGp hGc hGh X hX0 hX1 hX2 hX => ?_
  simp -implicitDefEqProofs [hX2, wj, f1, f2, h5, u0, w0]
  try clear hX0 hX1 hX2 hX X
  have f4 := f3.symm
  refine hGp _ _ _ _ _ _ _ _ (hSv) ?_
  clear hGp hGc hGh
  clear Gp Gc Gh
  refine px_go fun Gp Gc Gh hGp hGc hGh X hX0 hX1 hX2 hX => ?_
  simp -implicitDefEqProofs [hX2]
  try clear hX0 hX1 hX2 hX X
  refine hGp _ _ _ _ _ _ _ _ (hW0) ?_
  clear hGp hGc hGh
  clear Gp Gc Gh
  refine px_go fun Gp Gc Gh hGp hGc hGh X hX0 hX1 hX2 hX => ?_
  simp -implicitDefEqProofs [hX2, f4]
  try clear hX0 hX1 hX2 hX X
  refine hGp _ _ _ _ _ _ _ _ (lives13_ok) ?_
  clear hGp hGc hGh
  clear Gp Gc Gh
  refine px_go fun Gp Gc Gh hGp hGc hGh X hX0 hX1 hX2 hX => ?_
  simp -implicitDefEqProofs [hX0, hX2]
  try clear hX0 hX1 hX2 hX X
  refine hK _ _ _ ?_
  clear hK hGp hGc hGh
  clear K Gp Gc Gh
  repeat refine pw_seq ?_
  exact pw_ret (ret_pure hd rfl rfl)

end Go.Proofs.Ytpifkibgplnnkaa.Pv
