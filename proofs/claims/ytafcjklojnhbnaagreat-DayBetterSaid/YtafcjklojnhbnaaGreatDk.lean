/- The laws DayFits and DayBetter: what they compute. -/
import Derived.Test.YtafcjklojnhbnaaGreatDj
import Derived.Test.YtafcjklojnhbnaaGreatPl
namespace Go.Proofs.YtafcjklojnhbnaaGreat.Pv
open Go Hp

set_option maxRecDepth 20000 in
theorem dayFits_ok (x : Inst) (l : List Stop) (hx : InstOk x) : Pure Tryz.prog 3 [.agg (instL x), L l] (B true) := by
  have hc := goodI_cust' x
  have hG := goodI_ok x hx
  generalize goodI x = y at *
  refine pure_enter Tryz.func3 (by rfl) rfl Tryz.ntmps3 (congrArg Array.toList Tryz.results3) (by simp) fun S nx hd => ?_
  repeat refine pw_seq ?_
  refine pw_N [] (by rfl) (by rfl) fun K Gc Gh hK hGc hGh X hX0 hX => ?_
  simp -implicitDefEqProofs [hX0, hX]
  try clear hX0 hX X
  intro v0
  refine hK _ _ _ ?_
  clear hK hGc hGh
  clear K Gc Gh
  repeat refine pw_seq ?_
  refine pw_N [] (by rfl) (by rfl) fun K Gc Gh hK hGc hGh X hX0 hX => ?_
  simp -implicitDefEqProofs [hX]
  try clear hX0 hX X
  refine hGc _ _ _ _ _ _ _ fun hsuf => ((hG _).mono ?_).v
  rintro _ _ ⟨rfl, rfl⟩
  refine ⟨_, _, rfl, ?_⟩
  clear hGc hGh
  clear Gc Gh
  refine xs_go hsuf (D := []) (by rfl) fun Gc Gh hGc hGh X hX0 hX => ?_
  simp -implicitDefEqProofs [hX0, hX]
  try clear hX0 hX X
  intro v1
  intros
  refine hK _ _ _ ?_
  clear hK hGc hGh
  clear K Gc Gh
  repeat refine pw_seq ?_
  refine pw_N [] (by rfl) (by rfl) fun K Gc Gh hK hGc hGh X hX0 hX => ?_
  simp -implicitDefEqProofs [hX0, hX]
  try clear hX0 hX X
  intros
  refine hK _ _ _ ?_
  clear hK hGc hGh
  clear K Gc Gh
  repeat refine pw_seq ?_
  refine pw_joinK (nx := nx) (fun ys : List Stop => ys.length ≤ 8) (fun ys => [(1, L ys), (5, .ptr (nx + 1) v1 0)]) (fun _ => S) (fun _ => [.cells v0 25 (instL x), .cells v1 25 (instL y)]) ?_ ?_
  · repeat refine pw_seq ?_
    refine pw_cond rfl (fun h8 => ?_) (fun h8 => ?_)
    · simp at h8
      have hl : 8 ≤ l.length := by omega
      repeat refine pw_seq ?_
      refine pw_N [] (by rfl) (by rfl) fun K Gc Gh hK hGc hGh X hX0 hX => ?_
      simp -implicitDefEqProofs [hX0, hX, hl]
      try clear hX0 hX X
      intros
      refine hK _ _ _ ?_
      clear hK hGc hGh
      clear K Gc Gh
      refine at_mk (l.take 8) [] (by simp; omega) ?_ rfl (by simp)
      have e := flat_take Enc.enc 2 (fun x : Stop => rfl) l 8
      simp at e
      simp [e, Nat.min_eq_left hl]
    · refine pw_skip ?_
      exact at_mk l [] (by simp at h8; omega) (by simp) rfl (by simp)
  intro ys hy
  simp only at hy ⊢
  repeat refine pw_seq ?_
  refine pw_Y none (Row.pures [0, 1, 2, 3, 4, 5, 6, 7, 8, 9, 10] .done) mixed (by rfl) (by rfl) (by rfl) fun K Gp Gc Gh hK hGp hGc hGh X hX0 hX1 hX2 hX => ?_
  simp -implicitDefEqProofs [hX2]
  try clear hX0 hX1 hX2 hX X
  refine hGp _ _ _ _ _ _ _ _ (fitsP_ok y ys hc (by omega)) ?_
  clear hGp hGc hGh
  clear Gp Gc Gh
  refine px_go fun Gp Gc Gh hGp hGc hGh X hX0 hX1 hX2 hX => ?_
  simp -implicitDefEqProofs [hX2]
  try clear hX0 hX1 hX2 hX X
  refine hGp _ _ _ _ _ _ _ _ (fitsR_ok y ys hc (by omega)) ?_
  clear hGp hGc hGh
  clear Gp Gc Gh
  refine px_go fun Gp Gc Gh hGp hGc hGh X hX0 hX1 hX2 hX => ?_
  simp -implicitDefEqProofs [hX2]
  try clear hX0 hX1 hX2 hX X
  refine hGp _ _ _ _ _ _ _ _ (lives15_ok) ?_
  clear hGp hGc hGh
  clear Gp Gc Gh
  refine px_go fun Gp Gc Gh hGp hGc hGh X hX0 hX1 hX2 hX => ?_
  simp -implicitDefEqProofs [hX0, hX2]
  try clear hX0 hX1 hX2 hX X
  refine hK _ _ _ ?_
  clear hK hGp hGc hGh
  clear K Gp Gc Gh
  repeat refine pw_seq ?_
  exact pw_ret (ret_pure hd rfl rfl)

theorem better_not (x : Inst) (a : Day) : betterZ x a a = false := by
  unfold betterZ
  by_cases h : dayT x a = 0 <;> simp [h]

set_option maxRecDepth 20000 in
theorem dayBetter_ok (x : Inst) (l : List Stop) (c1 c2 : List Bool) (hx : InstOk x) (hl : l.length ≤ 9223372036854775807) (hs : ∀ s ∈ l, StopOk s) (h1 : c1.length ≤ 9223372036854775807) (h2 : c2.length ≤ 9223372036854775807) : Pure Tryz.prog 7 [.agg (instL x), L l, L c1, L c2] (B true) := by
  have hc := goodI_cust' x
  have hc6 := goodI_cust x
  have hG := goodI_ok x hx
  have hg := goods_of (n := (goodI x).cust.length) hs
  have ma := made_of c1 hg
  have mb := made_of c2 hg
  have ta := tours_ok (goodI x) l c1 hl h1 hc hs hg.len
  have tb := tours_ok (goodI x) l c2 hl h2 hc hs hg.len
  generalize toursOf c1 (goodL (goodI x).cust.length [] l) = a at *
  generalize toursOf c2 (goodL (goodI x).cust.length [] l) = b at *
  generalize goodI x = y at *
  have fa := ma.goods.len
  have fb := mb.goods.len
  have b1 := betterP_ok y a b hc (ma.dayOk (by omega)) (mb.dayOk (by omega)) (by omega) (by omega)
  have b2 := betterR_ok y a b hc (ma.dayOk (by omega)) (mb.dayOk (by omega)) (by omega) (by omega)
  have b3 := betterP_ok y a a hc (ma.dayOk (by omega)) (ma.dayOk (by omega)) (by omega) (by omega)
  rw [better_not] at b3
  refine pure_enter Tryz.func7 (by rfl) rfl Tryz.ntmps7 (congrArg Array.toList Tryz.results7) (by simp) fun S nx hd => ?_
  repeat refine pw_seq ?_
  refine pw_N [] (by rfl) (by rfl) fun K Gc Gh hK hGc hGh X hX0 hX => ?_
  simp -implicitDefEqProofs [hX0, hX]
  try clear hX0 hX X
  intro v0
  refine hK _ _ _ ?_
  clear hK hGc hGh
  clear K Gc Gh
  repeat refine pw_seq ?_
  refine pw_N [] (by rfl) (by rfl) fun K Gc Gh hK hGc hGh X hX0 hX => ?_
  simp -implicitDefEqProofs [hX]
  try clear hX0 hX X
  refine hGc _ _ _ _ _ _ _ fun hsuf => ((hG _).mono ?_).v
  rintro _ _ ⟨rfl, rfl⟩
  refine ⟨_, _, rfl, ?_⟩
  clear hGc hGh
  clear Gc Gh
  refine xs_go hsuf (D := []) (by rfl) fun Gc Gh hGc hGh X hX0 hX => ?_
  simp -implicitDefEqProofs [hX0, hX]
  try clear hX0 hX X
  intro v1
  intros
  refine hK _ _ _ ?_
  clear hK hGc hGh
  clear K Gc Gh
  repeat refine pw_seq ?_
  refine pw_N [] (by rfl) (by rfl) fun K Gc Gh hK hGc hGh X hX0 hX => ?_
  simp -implicitDefEqProofs [hX]
  try clear hX0 hX X
  refine hGc _ _ _ _ _ _ _ fun hsuf => ((ta _).mono ?_).v
  rintro _ _ ⟨rfl, rfl⟩
  refine ⟨_, _, rfl, ?_⟩
  clear hGc hGh
  clear Gc Gh
  refine xs_go hsuf (D := []) (by rfl) fun Gc Gh hGc hGh X hX0 hX => ?_
  simp -implicitDefEqProofs [hX0, hX]
  try clear hX0 hX X
  intro v2
  intros
  refine hK _ _ _ ?_
  clear hK hGc hGh
  clear K Gc Gh
  repeat refine pw_seq ?_
  refine pw_N [] (by rfl) (by rfl) fun K Gc Gh hK hGc hGh X hX0 hX => ?_
  simp -implicitDefEqProofs [hX]
  try clear hX0 hX X
  refine hGc _ _ _ _ _ _ _ fun hsuf => ((tb _).mono ?_).v
  rintro _ _ ⟨rfl, rfl⟩
  refine ⟨_, _, rfl, ?_⟩
  clear hGc hGh
  clear Gc Gh
  refine xs_go hsuf (D := []) (by rfl) fun Gc Gh hGc hGh X hX0 hX => ?_
  simp -implicitDefEqProofs [hX0, hX]
  try clear hX0 hX X
  intro v3
  intros
  refine hK _ _ _ ?_
  clear hK hGc hGh
  clear K Gc Gh
  repeat refine pw_seq ?_
  refine pw_Y none (Row.pures [0, 1, 2, 3, 4, 5, 6, 7, 8, 9, 10, 11, 12, 13, 14, 15, 16, 17, 18, 19] .done) mixed (by rfl) (by rfl) (by rfl) fun K Gp Gc Gh hK hGp hGc hGh X hX0 hX1 hX2 hX => ?_
  simp -implicitDefEqProofs [hX2]
  try clear hX0 hX1 hX2 hX X
  refine hGp _ _ _ _ _ _ _ _ (b1) ?_
  clear hGp hGc hGh
  clear Gp Gc Gh
  refine px_go fun Gp Gc Gh hGp hGc hGh X hX0 hX1 hX2 hX => ?_
  simp -implicitDefEqProofs [hX2]
  try clear hX0 hX1 hX2 hX X
  refine hGp _ _ _ _ _ _ _ _ (b2) ?_
  clear hGp hGc hGh
  clear Gp Gc Gh
  refine px_go fun Gp Gc Gh hGp hGc hGh X hX0 hX1 hX2 hX => ?_
  simp -implicitDefEqProofs [hX2]
  try clear hX0 hX1 hX2 hX X
  refine hGp _ _ _ _ _ _ _ _ (b3) ?_
  clear hGp hGc hGh
  clear Gp Gc Gh
  refine px_go fun Gp Gc Gh hGp hGc hGh X hX0 hX1 hX2 hX => ?_
  simp -implicitDefEqProofs [hX2]
  try clear hX0 hX1 hX2 hX X
  refine hGp _ _ _ _ _ _ _ _ (lives15_ok) ?_
  clear hGp hGc hGh
  clear Gp Gc Gh
  refine px_go fun Gp Gc Gh hGp hGc hGh X hX0 hX1 hX2 hX => ?_
  simp -implicitDefEqProofs [hX0, hX2]
  try clear hX0 hX1 hX2 hX X
  refine hK _ _ _ ?_
  clear hK hGp hGc hGh
  clear K Gp Gc Gh
  repeat refine pw_seq ?_
  exact pw_ret (ret_pure hd rfl rfl)

end Go.Proofs.YtafcjklojnhbnaaGreat.Pv
