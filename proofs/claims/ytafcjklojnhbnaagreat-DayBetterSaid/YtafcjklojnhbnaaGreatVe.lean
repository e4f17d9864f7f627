/- savings.Saves, tranterref13.Saves, ahead, and how pairs lie in cells. -/
import Derived.Test.YtafcjklojnhbnaaGreatVd
import Derived.Test.YtafcjklojnhbnaaGreatIb
import Derived.Test.YtafcjklojnhbnaaGreatFa
namespace Go.Proofs.YtafcjklojnhbnaaGreat.Pv
open Go Hp

instance : Inhabited Pr := ⟨⟨0, 0, 0⟩⟩
instance : Enc Pr := ⟨fun p => [I p.a, I p.b, I p.s], 3, fun _ => rfl, fun _ => rfl⟩
@[simp] theorem enc_pr (p : Pr) : Enc.enc p = [I p.a, I p.b, I p.s] := rfl
@[simp high] theorem flen_pr (l : List Pr) : (l.flatMap Enc.enc).length = l.length * 3 := flat_length l
@[simp high] theorem ftake_pr (l : List Pr) : (l.flatMap Enc.enc).take (l.length * 3) = l.flatMap Enc.enc := flat_take' l

/-- No arc is below nought, or great. -/
def ArcOk (x : Inst) : Prop := ∀ a b, 0 ≤ arc x a b ∧ arc x a b ≤ 2147483648
theorem savZ_le {x : Inst} (h : ArcOk x) (a b : Int) : -2147483648 ≤ savZ x a b ∧ savZ x a b ≤ 4294967296 := by
  have h1 := h (a + 1) 0
  have h2 := h 0 (b + 1)
  have h3 := h (a + 1) (b + 1)
  unfold savZ
  omega

set_option maxRecDepth 20000 in
theorem savesP_ok (x : Inst) (a b : Int) (hx : ArcOk x) (ha : small a) (hb : small b) : Pure Tryz.prog 143 [.agg (instL x), I a, I b] (I (savZ x a b)) := by
  have w1 := small_wr ha
  have w2 := small_wr hb
  have h1 := hx (a + 1) 0
  have h2 := hx 0 (b + 1)
  have h3 := hx (a + 1) (b + 1)
  have w3 : IntKind.i64.wrap (arc x (a + 1) 0 + arc x 0 (b + 1)) = arc x (a + 1) 0 + arc x 0 (b + 1) := wr _ (by omega) (by omega)
  have w4 : IntKind.i64.wrap (arc x (a + 1) 0 + arc x 0 (b + 1) - arc x (a + 1) (b + 1)) = savZ x a b := wr _ (by omega) (by omega)
  refine pure_enter Tryz.func143 (by rfl) rfl Tryz.ntmps143 (congrArg Array.toList Tryz.results143) (by simp) fun S nx hd => ?_
  repeat refine pw_seq ?_
  refine pw_N [] (by rfl) (by rfl) fun K Gc Gh hK hGc hGh X hX0 hX => ?_
  simp -implicitDefEqProofs [hX0, hX]
  try clear hX0 hX X
  intro v0
  refine hK _ _ _ ?_
  clear hK hGc hGh
  clear K Gc Gh
  repeat refine pw_seq ?_
  refine pw_Y none (Row.pures [0, 1, 2, 3, 4, 5, 6, 7, 8, 9, 10, 11, 12, 13, 14, 15, 16] .done) mixed (by rfl) (by rfl) (by rfl) fun K Gp Gc Gh hK hGp hGc hGh X hX0 hX1 hX2 hX => ?_
  simp -implicitDefEqProofs [hX2, w1]
  try clear hX0 hX1 hX2 hX X
  refine hGp _ _ _ _ _ _ _ _ (arcP_ok _ _ _) ?_
  clear hGp hGc hGh
  clear Gp Gc Gh
  refine px_go fun Gp Gc Gh hGp hGc hGh X hX0 hX1 hX2 hX => ?_
  simp -implicitDefEqProofs [hX2, w2]
  try clear hX0 hX1 hX2 hX X
  refine hGp _ _ _ _ _ _ _ _ (arcP_ok _ _ _) ?_
  clear hGp hGc hGh
  clear Gp Gc Gh
  refine px_go fun Gp Gc Gh hGp hGc hGh X hX0 hX1 hX2 hX => ?_
  simp -implicitDefEqProofs [hX2, w1, w2, w3]
  try clear hX0 hX1 hX2 hX X
  refine hGp _ _ _ _ _ _ _ _ (arcP_ok _ _ _) ?_
  clear hGp hGc hGh
  clear Gp Gc Gh
  refine px_go fun Gp Gc Gh hGp hGc hGh X hX0 hX1 hX2 hX => ?_
  simp -implicitDefEqProofs [hX0, hX2, w4]
  try clear hX0 hX1 hX2 hX X
  refine hK _ _ _ ?_
  clear hK hGp hGc hGh
  clear K Gp Gc Gh
  repeat refine pw_seq ?_
  exact pw_ret (ret_pure hd rfl rfl)

set_option maxRecDepth 20000 in
theorem savesR_ok (x : Inst) (a b : Int) (hx : ArcOk x) (ha : small a) (hb : small b) : Pure Tryz.prog 101 [.agg (instL x), I a, I b] (I (savZ x a b)) := by
  have w1 := small_wr ha
  have w2 := small_wr hb
  have h1 := hx (a + 1) 0
  have h2 := hx 0 (b + 1)
  have h3 := hx (a + 1) (b + 1)
  have w3 : IntKind.i64.wrap (arc x (a + 1) 0 + arc x 0 (b + 1)) = arc x (a + 1) 0 + arc x 0 (b + 1) := wr _ (by omega) (by omega)
  have w4 : IntKind.i64.wrap (arc x (a + 1) 0 + arc x 0 (b + 1) - arc x (a + 1) (b + 1)) = savZ x a b := wr _ (by omega) (by omega)
  refine pure_enter Tryz.func101 (by rfl) rfl Tryz.ntmps101 (congrArg Array.toList Tryz.results101) (by simp) fun S nx hd => ?_
  repeat refine pw_seq ?_
  refine pw_N [] (by rfl) (by rfl) fun K Gc Gh hK hGc hGh X hX0 hX => ?_
  simp -implicitDefEqProofs [hX0, hX]
  try clear hX0 hX X
  intro v0
  refine hK _ _ _ ?_
  clear hK hGc hGh
  clear K Gc Gh
  repeat refine pw_seq ?_
  refine pw_Y none (Row.pures [0, 1, 2, 3, 4, 5, 6, 7, 8, 9, 10, 11, 12, 13, 14, 15, 16] .done) mixed (by rfl) (by rfl) (by rfl) fun K Gp Gc Gh hK hGp hGc hGh X hX0 hX1 hX2 hX => ?_
  simp -implicitDefEqProofs [hX2, w1]
  try clear hX0 hX1 hX2 hX X
  refine hGp _ _ _ _ _ _ _ _ (arcR_ok _ _ _) ?_
  clear hGp hGc hGh
  clear Gp Gc Gh
  refine px_go fun Gp Gc Gh hGp hGc hGh X hX0 hX1 hX2 hX => ?_
  simp -implicitDefEqProofs [hX2, w2]
  try clear hX0 hX1 hX2 hX X
  refine hGp _ _ _ _ _ _ _ _ (arcR_ok _ _ _) ?_
  clear hGp hGc hGh
  clear Gp Gc Gh
  refine px_go fun Gp Gc Gh hGp hGc hGh X hX0 hX1 hX2 hX => ?_
  simp -implicitDefEqProofs [hX2, w1, w2, w3]
  try clear hX0 hX1 hX2 hX X
  refine hGp _ _ _ _ _ _ _ _ (arcR_ok _ _ _) ?_
  clear hGp hGc hGh
  clear Gp Gc Gh
  refine px_go fun Gp Gc Gh hGp hGc hGh X hX0 hX1 hX2 hX => ?_
  simp -implicitDefEqProofs [hX0, hX2, w4]
  try clear hX0 hX1 hX2 hX X
  refine hK _ _ _ ?_
  clear hK hGp hGc hGh
  clear K Gp Gc Gh
  repeat refine pw_seq ?_
  exact pw_ret (ret_pure hd rfl rfl)

set_option maxRecDepth 20000 in
theorem aheadR_ok (p q : Pr) : Pure Tryz.prog 102 [.agg (Enc.enc p), .agg (Enc.enc q)] (B (plt p q)) := by
  refine pure_enter Tryz.func102 (by rfl) rfl Tryz.ntmps102 (congrArg Array.toList Tryz.results102) (by simp) fun S nx hd => ?_
  repeat refine pw_seq ?_
  refine pw_N [] (by rfl) (by rfl) fun K Gc Gh hK hGc hGh X hX0 hX => ?_
  simp -implicitDefEqProofs [hX0, hX]
  try clear hX0 hX X
  intro v0 v1
  refine hK _ _ _ ?_
  clear hK hGc hGh
  clear K Gc Gh
  repeat refine pw_seq ?_
  refine pw_N [] (by rfl) (by rfl) fun K Gc Gh hK hGc hGh X hX0 hX => ?_
  simp -implicitDefEqProofs [hX0, hX]
  try clear hX0 hX X
  intros
  refine hK _ _ _ ?_
  clear hK hGc hGh
  clear K Gc Gh
  by_cases h1 : p.s = q.s
  · repeat refine pw_seq ?_
    refine pw_cf (by simp [h1]) ?_
    refine pw_skip ?_
    repeat refine pw_seq ?_
    refine pw_N [] (by rfl) (by rfl) fun K Gc Gh hK hGc hGh X hX0 hX => ?_
    simp -implicitDefEqProofs [hX0, hX]
    try clear hX0 hX X
    intros
    refine hK _ _ _ ?_
    clear hK hGc hGh
    clear K Gc Gh
    by_cases h2 : p.a = q.a
    · repeat refine pw_seq ?_
      refine pw_cf (by simp [h2]) ?_
      refine pw_skip ?_
      repeat refine pw_seq ?_
      refine pw_N [] (by rfl) (by rfl) fun K Gc Gh hK hGc hGh X hX0 hX => ?_
      simp -implicitDefEqProofs [hX0, hX]
      try clear hX0 hX X
      intros
      refine hK _ _ _ ?_
      clear hK hGc hGh
      clear K Gc Gh
      repeat refine pw_seq ?_
      exact pw_ret (ret_pure hd rfl (by simp [plt, h1, h2]))
    · repeat refine pw_seq ?_
      refine pw_ct (by simp [h2]) ?_
      repeat refine pw_seq ?_
      refine pw_N [] (by rfl) (by rfl) fun K Gc Gh hK hGc hGh X hX0 hX => ?_
      simp -implicitDefEqProofs [hX0, hX]
      try clear hX0 hX X
      intros
      refine hK _ _ _ ?_
      clear hK hGc hGh
      clear K Gc Gh
      repeat refine pw_seq ?_
      exact pw_ret (ret_pure hd rfl (by simp [plt, h1, h2]))
  · repeat refine pw_seq ?_
    refine pw_ct (by simp [h1]) ?_
    repeat refine pw_seq ?_
    refine pw_N [] (by rfl) (by rfl) fun K Gc Gh hK hGc hGh X hX0 hX => ?_
    simp -implicitDefEqProofs [hX0, hX]
    try clear hX0 hX X
    intros
    refine hK _ _ _ ?_
    clear hK hGc hGh
    clear K Gc Gh
    repeat refine pw_seq ?_
    exact pw_ret (ret_pure hd rfl (by simp [plt, h1]))

end Go.Proofs.YtafcjklojnhbnaaGreat.Pv
