/- What plans cost (check.Holding, Days, Cost, Tours; tranterref16.Holding, Cost); plans cut (tranterref08.Cut). -/
import Derived.Test.YtlkcdaeknioanaaGreatLu
namespace Go.Proofs.YtlkcdaeknioanaaGreat.Pv
open Go

def holdC (x : Inst) (p : Plan) (i : Nat) : Int :=
  match x.cust[i]? with
  | none => 0
  | some c => if c.kind = 2 then heldZ c (nightsE c (bringsV (visOf i (told 0 p)) x.days)).1 else 0
def holdTo (x : Inst) (p : Plan) (k : Nat) : Int := ((List.range k).map (holdC x p)).sum
theorem holdTo_succ (x : Inst) (p : Plan) (k : Nat) : holdTo x p (k + 1) = holdTo x p k + holdC x p k := by simp [holdTo, List.range_succ]
theorem nights_len (c : Cust) (q : List Int) (hq : q.length ≤ 1048576) : (nightsE c q).1.length ≤ 1048576 := by
  unfold nightsE
  split
  · simp
  · cases h : runN c.size c.rate c.start q with
    | none => simp
    | some l => simp [runN_len h]; exact hq
theorem brings_len (v : List Visit) (n : Int) : (bringsV v n).length ≤ 1048576 := by rw [bringsV_len]; omega

set_option maxRecDepth 20000 in
theorem holdingP_ok (x : Inst) (p : Plan) (h : Serves x p) (hx : x.cust.length ≤ 1048576) (hf : ∀ c ∈ x.cust, CustFits c) : Pure Tryz.prog 19 [.agg (instL x), .agg [L p]] (I (W (holdTo x p x.cust.length))) := by
  refine pure_enter Tryz.func19 (by rfl) rfl Tryz.ntmps19 (congrArg Array.toList Tryz.results19) (by simp) fun S nx hd => ?_
  repeat refine pw_seq ?_
  refine pw_N [] (by rfl) (by rfl) fun K Gc Gh hK hGc hGh X hX0 hX => ?_
  simp -implicitDefEqProofs [hX0, hX]
  try clear hX0 hX X
  intro v0 v1
  refine hK _ _ _ ?_
  clear hK hGc hGh
  clear K Gc Gh
  repeat refine pw_seq ?_
  refine pw_N [] (by rfl) (by rfl) fun K Gc Gh hK hGc hGh X hX0 hX => ?_
  simp -implicitDefEqProofs [hX0, hX]
  try clear hX0 hX X
  intros
  refine hK _ _ _ ?_
  clear hK hGc hGh
  clear K Gc Gh
  repeat refine pw_seq ?_
  refine pw_N [] (by rfl) (by rfl) fun K Gc Gh hK hGc hGh X hX0 hX => ?_
  simp -implicitDefEqProofs [hX0, hX]
  try clear hX0 hX X
  intros
  refine hK _ _ _ ?_
  clear hK hGc hGh
  clear K Gc Gh
  repeat refine pw_seq ?_
  refine pw_block (pw_loopL (fun s : Nat => s ≤ x.cust.length) (fun k => [(2, .ptr nx v0 0), (3, .ptr (nx + 1) v1 0), (5, I (W (holdTo x p k))), (11, L x.cust), (12, I x.cust.length), (13, I k)]) (fun _ => [.cells v0 25 (instL x), .cells v1 30 [L p]]) (fun s => x.cust.length - s) 0 [] (by simp) (by simp [holdTo]) (by simp) ?_)
  rintro k hk
  repeat refine pw_seq ?_
  refine pw_N [] (by rfl) (by rfl) fun K Gc Gh hK hGc hGh X hX0 hX => ?_
  simp -implicitDefEqProofs [hX0, hX]
  try clear hX0 hX X
  intros
  refine hK _ _ _ ?_
  clear hK hGc hGh
  clear K Gc Gh
  repeat refine pw_seq ?_
  refine pw_cond rfl (fun hc => ?_) (fun hc => ?_)
  · simp at hc
    obtain ⟨c, tl, a1, a2, a3, _, e0⟩ := el 8 rfl x.cust k hc
    have hfc := hf c (List.mem_of_getElem? a1)
    have hs := holdTo_succ x p k
    refine pw_skip (pw_seq (pw_block ?_))
    repeat refine pw_seq ?_
    refine pw_N [] (by rfl) (by rfl) fun K Gc Gh hK hGc hGh X hX0 hX => ?_
    simp -implicitDefEqProofs [hX0, hX, hc, e0]
    try clear hX0 hX X
    intro v2
    refine hK _ _ _ ?_
    clear hK hGc hGh
    clear K Gc Gh
    repeat refine pw_seq ?_
    refine pw_N [] (by rfl) (by rfl) fun K Gc Gh hK hGc hGh X hX0 hX => ?_
    simp -implicitDefEqProofs [hX0, hX]
    try clear hX0 hX X
    intros
    refine hK _ _ _ ?_
    clear hK hGc hGh
    clear K Gc Gh
    by_cases hk2 : c.kind = 2
    · have hb := brings_view x p k h
      have hn := nights_ok c (bringsV (visOf k (told 0 p)) x.days) hfc (brings_len _ _)
      have hh := held_ok c (nightsE c (bringsV (visOf k (told 0 p)) x.days)).1 (nights_len _ _ (brings_len _ _))
      have hC : holdC x p k = heldZ c (nightsE c (bringsV (visOf k (told 0 p)) x.days)).1 := by simp only [holdC, a1, if_pos hk2]
      rw [hC] at hs
      generalize heldZ c (nightsE c (bringsV (visOf k (told 0 p)) x.days)).1 = z at *
      generalize nightsE c (bringsV (visOf k (told 0 p)) x.days) = ne at *
      generalize bringsV (visOf k (told 0 p)) x.days = q at *
      obtain ⟨ns, er⟩ := ne
      simp only at hn hh
      repeat refine pw_seq ?_
      refine pw_ct (by simp [hk2]) ?_
      repeat refine pw_seq ?_
      refine pw_Y (some [nx, nx + 1, nx + 2]) (Row.pures [0, 1, 2, 3, 4, 5, 6, 7, 8, 9, 10, 11] .done) mixed (by rfl) (by rfl) (by rfl) fun K Gp Gc Gh hK hGp hGc hGh X hX0 hX1 hX2 hX => ?_
      simp -implicitDefEqProofs [hX2]
      try clear hX0 hX1 hX2 hX X
      refine hGp _ _ _ _ _ _ _ _ (hb) ?_
      clear hGp hGc hGh
      clear Gp Gc Gh
      refine px_go fun Gp Gc Gh hGp hGc hGh X hX0 hX1 hX2 hX => ?_
      simp -implicitDefEqProofs [hX2]
      try clear hX0 hX1 hX2 hX X
      refine hGp _ _ _ _ _ _ _ _ (hn) ?_
      clear hGp hGc hGh
      clear Gp Gc Gh
      refine px_go fun Gp Gc Gh hGp hGc hGh X hX0 hX1 hX2 hX => ?_
      simp -implicitDefEqProofs [hX0, hX2]
      try clear hX0 hX1 hX2 hX X
      refine hK _ _ _ ?_
      clear hK hGp hGc hGh
      clear K Gp Gc Gh
      repeat refine pw_seq ?_
      refine pw_N [] (by rfl) (by rfl) fun K Gc Gh hK hGc hGh X hX0 hX => ?_
      simp -implicitDefEqProofs [hX]
      try clear hX0 hX X
      refine hGc _ _ _ _ _ _ _ fun hsuf => ((hh _).mono ?_).v
      rintro _ _ ⟨rfl, rfl⟩
      refine ⟨_, _, rfl, ?_⟩
      clear hGc hGh
      clear Gc Gh
      refine xs_go hsuf (D := []) (by rfl) fun Gc Gh hGc hGh X hX0 hX => ?_
      simp -implicitDefEqProofs [hX0, hX]
      try clear hX0 hX X
      intros
      refine hK _ _ _ ?_
      clear hK hGc hGh
      clear K Gc Gh
      have hw : W (W (holdTo x p k) + z) = W (holdTo x p (k + 1)) := by rw [hs, W_add]
      repeat refine pw_seq ?_
      refine pw_N [] (by rfl) (by rfl) fun K Gc Gh hK hGc hGh X hX0 hX => ?_
      simp -implicitDefEqProofs [hX0, hX]
      try clear hX0 hX X
      intros
      refine hK _ _ _ ?_
      clear hK hGc hGh
      clear K Gc Gh
      exact again_mk (k + 1) [_] hc (by omega) (by simp [wrN k (by omega)]; exact hw) rfl rfl
    · have hC : holdC x p k = 0 := by simp only [holdC, a1, if_neg hk2]
      rw [hC, Int.add_zero] at hs
      repeat refine pw_seq ?_
      refine pw_cf (by simp [hk2]) ?_
      refine pw_skip ?_
      repeat refine pw_seq ?_
      refine pw_N [] (by rfl) (by rfl) fun K Gc Gh hK hGc hGh X hX0 hX => ?_
      simp -implicitDefEqProofs [hX0, hX]
      try clear hX0 hX X
      intros
      refine hK _ _ _ ?_
      clear hK hGc hGh
      clear K Gc Gh
      exact again_mk (k + 1) [_] hc (by omega) (by simp [wrN k (by omega), hs]) rfl rfl
  · simp at hc
    obtain rfl : k = x.cust.length := by omega
    refine pw_exit ?_
    repeat refine pw_seq ?_
    refine pw_N [] (by rfl) (by rfl) fun K Gc Gh hK hGc hGh X hX0 hX => ?_
    simp -implicitDefEqProofs [hX0, hX]
    try clear hX0 hX X
    intros
    refine hK _ _ _ ?_
    clear hK hGc hGh
    clear K Gc Gh
    repeat refine pw_seq ?_
    exact pw_ret (ret_pure hd (by simp; rfl) rfl)

set_option maxRecDepth 20000 in
theorem holdingR_ok (x : Inst) (p : Plan) (h : Serves x p) (hx : x.cust.length ≤ 1048576) (hf : ∀ c ∈ x.cust, CustFits c) : Pure Tryz.prog 20 [.agg (instL x), .agg [L p]] (I (W (holdTo x p x.cust.length))) := by
  refine pure_enter Tryz.func20 (by rfl) rfl Tryz.ntmps20 (congrArg Array.toList Tryz.results20) (by simp) fun S nx hd => ?_
  repeat refine pw_seq ?_
  refine pw_N [] (by rfl) (by rfl) fun K Gc Gh hK hGc hGh X hX0 hX => ?_
  simp -implicitDefEqProofs [hX0, hX]
  try clear hX0 hX X
  intro v0 v1
  refine hK _ _ _ ?_
  clear hK hGc hGh
  clear K Gc Gh
  repeat refine pw_seq ?_
  refine pw_N [] (by rfl) (by rfl) fun K Gc Gh hK hGc hGh X hX0 hX => ?_
  simp -implicitDefEqProofs [hX0, hX]
  try clear hX0 hX X
  intros
  refine hK _ _ _ ?_
  clear hK hGc hGh
  clear K Gc Gh
  repeat refine pw_seq ?_
  refine pw_N [] (by rfl) (by rfl) fun K Gc Gh hK hGc hGh X hX0 hX => ?_
  simp -implicitDefEqProofs [hX0, hX]
  try clear hX0 hX X
  intros
  refine hK _ _ _ ?_
  clear hK hGc hGh
  clear K Gc Gh
  repeat refine pw_seq ?_
  refine pw_block (pw_loopL (fun s : Nat => s ≤ x.cust.length) (fun k => [(2, .ptr nx v0 0), (3, .ptr (nx + 1) v1 0), (5, I (W (holdTo x p k))), (6, I k)]) (fun _ => [.cells v0 25 (instL x), .cells v1 30 [L p]]) (fun s => x.cust.length - s) 0 [] (by simp) (by simp [holdTo]) (by simp) ?_)
  rintro k hk
  repeat refine pw_seq ?_
  refine pw_N [] (by rfl) (by rfl) fun K Gc Gh hK hGc hGh X hX0 hX => ?_
  simp -implicitDefEqProofs [hX0, hX]
  try clear hX0 hX X
  intros
  refine hK _ _ _ ?_
  clear hK hGc hGh
  clear K Gc Gh
  repeat refine pw_seq ?_
  refine pw_cond rfl (fun hc => ?_) (fun hc => ?_)
  · simp at hc
    obtain ⟨c, tl, a1, a2, a3, _, e0⟩ := el 8 rfl x.cust k hc
    have hfc := hf c (List.mem_of_getElem? a1)
    have hs := holdTo_succ x p k
    refine pw_skip (pw_seq (pw_block ?_))
    repeat refine pw_seq ?_
    refine pw_N [] (by rfl) (by rfl) fun K Gc Gh hK hGc hGh X hX0 hX => ?_
    simp -implicitDefEqProofs [hX0, hX, hc, e0]
    try clear hX0 hX X
    intro v2
    refine hK _ _ _ ?_
    clear hK hGc hGh
    clear K Gc Gh
    repeat refine pw_seq ?_
    refine pw_N [] (by rfl) (by rfl) fun K Gc Gh hK hGc hGh X hX0 hX => ?_
    simp -implicitDefEqProofs [hX0, hX]
    try clear hX0 hX X
    intros
    refine hK _ _ _ ?_
    clear hK hGc hGh
    clear K Gc Gh
    by_cases hk2 : c.kind = 2
    · have hvi := visitsR_ok p k h.sz
      have hb := bringsR_ok (visOf k (told 0 p)) x.days (vis_ok h k).1
      have hn := nightsR_ok c (bringsV (visOf k (told 0 p)) x.days) hfc (brings_len _ _)
      have hh := heldR_ok c (nightsE c (bringsV (visOf k (told 0 p)) x.days)).1 (nights_len _ _ (brings_len _ _))
      have hC : holdC x p k = heldZ c (nightsE c (bringsV (visOf k (told 0 p)) x.days)).1 := by simp only [holdC, a1, if_pos hk2]
      rw [hC] at hs
      generalize heldZ c (nightsE c (bringsV (visOf k (told 0 p)) x.days)).1 = z at *
      generalize nightsE c (bringsV (visOf k (told 0 p)) x.days) = ne at *
      generalize bringsV (visOf k (told 0 p)) x.days = q at *
      generalize visOf (k : Int) (told 0 p) = v at *
      obtain ⟨ns, er⟩ := ne
      simp only at hn hh
      repeat refine pw_seq ?_
      refine pw_ct (by simp [hk2]) ?_
      repeat refine pw_seq ?_
      refine pw_Y (some [nx, nx + 1, nx + 2]) (Row.pures [0, 1, 2, 3, 4, 5, 6, 7, 8, 9, 10, 11, 12] .done) mixed (by rfl) (by rfl) (by rfl) fun K Gp Gc Gh hK hGp hGc hGh X hX0 hX1 hX2 hX => ?_
      simp -implicitDefEqProofs [hX2]
      try clear hX0 hX1 hX2 hX X
      refine hGp _ _ _ _ _ _ _ _ (hvi) ?_
      clear hGp hGc hGh
      clear Gp Gc Gh
      refine px_go fun Gp Gc Gh hGp hGc hGh X hX0 hX1 hX2 hX => ?_
      simp -implicitDefEqProofs [hX2]
      try clear hX0 hX1 hX2 hX X
      refine hGp _ _ _ _ _ _ _ _ (hb) ?_
      clear hGp hGc hGh
      clear Gp Gc Gh
      refine px_go fun Gp Gc Gh hGp hGc hGh X hX0 hX1 hX2 hX => ?_
      simp -implicitDefEqProofs [hX2]
      try clear hX0 hX1 hX2 hX X
      refine hGp _ _ _ _ _ _ _ _ (hn) ?_
      clear hGp hGc hGh
      clear Gp Gc Gh
      refine px_go fun Gp Gc Gh hGp hGc hGh X hX0 hX1 hX2 hX => ?_
      simp -implicitDefEqProofs [hX0, hX2]
      try clear hX0 hX1 hX2 hX X
      refine hK _ _ _ ?_
      clear hK hGp hGc hGh
      clear K Gp Gc Gh
      repeat refine pw_seq ?_
      refine pw_N [] (by rfl) (by rfl) fun K Gc Gh hK hGc hGh X hX0 hX => ?_
      simp -implicitDefEqProofs [hX]
      try clear hX0 hX X
      refine hGc _ _ _ _ _ _ _ fun hsuf => ((hh _).mono ?_).v
      rintro _ _ ⟨rfl, rfl⟩
      refine ⟨_, _, rfl, ?_⟩
      clear hGc hGh
      clear Gc Gh
      refine xs_go hsuf (D := []) (by rfl) fun Gc Gh hGc hGh X hX0 hX => ?_
      simp -implicitDefEqProofs [hX0, hX]
      try clear hX0 hX X
      intros
      refine hK _ _ _ ?_
      clear hK hGc hGh
      clear K Gc Gh
      have hw : W (W (holdTo x p k) + z) = W (holdTo x p (k + 1)) := by rw [hs, W_add]
      repeat refine pw_seq ?_
      refine pw_N [] (by rfl) (by rfl) fun K Gc Gh hK hGc hGh X hX0 hX => ?_
      simp -implicitDefEqProofs [hX0, hX]
      try clear hX0 hX X
      intros
      refine hK _ _ _ ?_
      clear hK hGc hGh
      clear K Gc Gh
      exact again_mk (k + 1) [_] hc (by omega) (by simp [wrN k (by omega)]; exact hw) rfl rfl
    · have hC : holdC x p k = 0 := by simp only [holdC, a1, if_neg hk2]
      rw [hC, Int.add_zero] at hs
      repeat refine pw_seq ?_
      refine pw_cf (by simp [hk2]) ?_
      refine pw_skip ?_
      repeat refine pw_seq ?_
      refine pw_N [] (by rfl) (by rfl) fun K Gc Gh hK hGc hGh X hX0 hX => ?_
      simp -implicitDefEqProofs [hX0, hX]
      try clear hX0 hX X
      intros
      refine hK _ _ _ ?_
      clear hK hGc hGh
      clear K Gc Gh
      exact again_mk (k + 1) [_] hc (by omega) (by simp [wrN k (by omega), hs]) rfl rfl
  · simp at hc
    obtain rfl : k = x.cust.length := by omega
    refine pw_exit ?_
    repeat refine pw_seq ?_
    refine pw_N [] (by rfl) (by rfl) fun K Gc Gh hK hGc hGh X hX0 hX => ?_
    simp -implicitDefEqProofs [hX0, hX]
    try clear hX0 hX X
    intros
    refine hK _ _ _ ?_
    clear hK hGc hGh
    clear K Gc Gh
    repeat refine pw_seq ?_
    exact pw_ret (ret_pure hd (by simp; rfl) rfl)

def daysW (x : Inst) (p : Plan) : List Int := p.map fun d => W (costZ x d)

set_option maxRecDepth 20000 in
theorem checkDays_own (x : Inst) (p : Plan) (hp : p.length ≤ 1048576) (hd' : ∀ d ∈ p, DayOk d) (S : Store) (nx : Nat) (hd : DeadFrom nx S) :
    Spec Tryz.prog 16 [.agg (instL x), .agg [L p]] S (fun q S' => ∃ v, q = .sl (nx + 2) v 1 0 p.length ∧ S' = S.set (nx + 2) (.cells v 3 ((daysW x p).flatMap Enc.enc))) := by
  refine spec_at hd Tryz.func16 (by rfl) rfl Tryz.ntmps16 (congrArg Array.toList Tryz.results16) (by simp) ?_
  repeat refine pw_seq ?_
  refine pw_N [] (by rfl) (by rfl) fun K Gc Gh hK hGc hGh X hX0 hX => ?_
  simp -implicitDefEqProofs [hX0, hX]
  try clear hX0 hX X
  intro v0 v1
  refine hK _ _ _ ?_
  clear hK hGc hGh
  clear K Gc Gh
  repeat refine pw_seq ?_
  refine pw_N [] (by rfl) (by rfl) fun K Gc Gh hK hGc hGh X hX0 hX => ?_
  simp -implicitDefEqProofs [hX0, hX]
  try clear hX0 hX X
  intros
  refine hK _ _ _ ?_
  clear hK hGc hGh
  clear K Gc Gh
  refine pw_seq (pw_nilX 5 3 1 rfl fun v2 => ?_)
  repeat refine pw_seq ?_
  refine pw_N [] (by rfl) (by rfl) fun K Gc Gh hK hGc hGh X hX0 hX => ?_
  simp -implicitDefEqProofs [hX0, hX]
  try clear hX0 hX X
  intros
  refine hK _ _ _ ?_
  clear hK hGc hGh
  clear K Gc Gh
  repeat refine pw_seq ?_
  refine pw_block (pw_loopL (fun s : Nat × List Int × Nat => s.1 ≤ p.length ∧ s.2.1 = daysW x (p.take s.1)) (fun (k, out, v2) => [(2, .ptr nx v0 0), (3, .ptr (nx + 1) v1 0), (5, .sl (nx + 2) v2 1 0 out.length), (9, L p), (10, I p.length), (11, I k)]) (fun (k, out, v2) => [.cells v0 25 (instL x), .cells v1 30 [L p], .cells v2 3 (out.flatMap Enc.enc)]) (fun s => p.length - s.1) (0, [], v2) [] (by simp [daysW]) (by simp) (by simp) ?_)
  rintro ⟨k, out, v2⟩ ⟨hk, ho⟩
  simp only at hk ho ⊢
  have hol : out.length = k := by rw [ho]; simp [daysW]; omega
  repeat refine pw_seq ?_
  refine pw_N [] (by rfl) (by rfl) fun K Gc Gh hK hGc hGh X hX0 hX => ?_
  simp -implicitDefEqProofs [hX0, hX]
  try clear hX0 hX X
  intros
  refine hK _ _ _ ?_
  clear hK hGc hGh
  clear K Gc Gh
  repeat refine pw_seq ?_
  refine pw_cond rfl (fun hc => ?_) (fun hc => ?_)
  · simp at hc
    obtain ⟨d, tl, a1, a2, a3, e0⟩ := el1 rfl p k hc
    refine pw_skip (pw_seq (pw_block ?_))
    repeat refine pw_seq ?_
    refine pw_N [] (by rfl) (by rfl) fun K Gc Gh hK hGc hGh X hX0 hX => ?_
    simp -implicitDefEqProofs [hX0, hX, hc, e0]
    try clear hX0 hX X
    intro v3
    refine hK _ _ _ ?_
    clear hK hGc hGh
    clear K Gc Gh
    repeat refine pw_seq ?_
    refine pw_N [] (by rfl) (by rfl) fun K Gc Gh hK hGc hGh X hX0 hX => ?_
    simp -implicitDefEqProofs [hX]
    try clear hX0 hX X
    refine hGc _ _ _ _ _ _ _ fun hsuf => ((costP_ok x d (hd' d (List.mem_of_getElem? a1)) _).mono ?_).v
    rintro _ _ ⟨rfl, rfl⟩
    refine ⟨_, _, rfl, ?_⟩
    clear hGc hGh
    clear Gc Gh
    refine xs_go hsuf (D := []) (by rfl) fun Gc Gh hGc hGh X hX0 hX => ?_
    simp -implicitDefEqProofs [hX0, hX]
    try clear hX0 hX X
    refine ⟨by omega, ?_⟩
    intros
    refine hK _ _ _ ?_
    clear hK hGc hGh
    clear K Gc Gh
    repeat refine pw_seq ?_
    refine pw_N [] (by rfl) (by rfl) fun K Gc Gh hK hGc hGh X hX0 hX => ?_
    simp -implicitDefEqProofs [hX0, hX]
    try clear hX0 hX X
    intros
    refine hK _ _ _ ?_
    clear hK hGc hGh
    clear K Gc Gh
    exact again_mk (k + 1, out ++ [W (costZ x d)], v2 + 1) [_] ⟨hc, by rw [a3, ho]; simp [daysW]⟩ (by simp; omega) (by simp [wrN k (by omega)]) rfl (by simp; rfl)
  · simp at hc
    obtain rfl : k = p.length := by omega
    rw [List.take_length] at ho
    refine pw_exit ?_
    repeat refine pw_seq ?_
    refine pw_N [] (by rfl) (by rfl) fun K Gc Gh hK hGc hGh X hX0 hX => ?_
    simp -implicitDefEqProofs [hX0, hX]
    try clear hX0 hX X
    intros
    refine hK _ _ _ ?_
    clear hK hGc hGh
    clear K Gc Gh
    repeat refine pw_seq ?_
    refine pw_ret ⟨_, _, rfl, ⟨v2, by simp [oneOf, hol], rfl⟩, keep_one (j := 2) hd (by simp [ho])⟩

theorem checkDays_ok (x : Inst) (p : Plan) (hp : p.length ≤ 1048576) (hd' : ∀ d ∈ p, DayOk d) : Pure Tryz.prog 16 [.agg (instL x), .agg [L p]] (L (daysW x p)) := by
  have hl : (daysW x p).length = p.length := by simp [daysW]
  have := own_pure 2 (fun S nx hd => checkDays_own x p hp hd' S nx hd) (by rw [flen_int, hl]; omega)
  rw [← hl] at this
  exact this

def costAll (x : Inst) (p : Plan) : Int := W (holdTo x p x.cust.length + (p.map (costZ x)).sum)
theorem sum_W (a : Int) (l : List Int) : W (a + (l.map W).sum) = W (a + l.sum) := by
  induction l generalizing a with
  | nil => rfl
  | cons b l ih =>
    simp only [List.map_cons, List.sum_cons]
    have e1 : a + (W b + (l.map W).sum) = (a + W b) + (l.map W).sum := by omega
    rw [e1, ih, show a + W b + l.sum = (a + l.sum) + W b by omega, W_add', show a + l.sum + b = a + (b + l.sum) by omega]
theorem costAll_days (x : Inst) (p : Plan) : W (W (holdTo x p x.cust.length) + (daysW x p).sum) = costAll x p := by
  have : daysW x p = (p.map (costZ x)).map W := by simp [daysW]
  rw [this, W_add, sum_W, costAll]

set_option maxRecDepth 20000 in
theorem checkCost_ok (x : Inst) (p : Plan) (h : Serves x p) (hx : x.cust.length ≤ 1048576) (hf : ∀ c ∈ x.cust, CustFits c) (hd' : ∀ d ∈ p, DayOk d) : Pure Tryz.prog 18 [.agg (instL x), .agg [L p]] (I (costAll x p)) := by
  have hres := costAll_days x p
  have hl : (daysW x p).length = p.length := by simp [daysW]
  have hpn := h.sz.n
  have hdy := checkDays_ok x p hpn hd'
  rw [← hres]
  generalize daysW x p = ds at hl hdy
  refine pure_enter Tryz.func18 (by rfl) rfl Tryz.ntmps18 (congrArg Array.toList Tryz.results18) (by simp) fun S nx hd => ?_
  repeat refine pw_seq ?_
  refine pw_N [] (by rfl) (by rfl) fun K Gc Gh hK hGc hGh X hX0 hX => ?_
  simp -implicitDefEqProofs [hX0, hX]
  try clear hX0 hX X
  intro v0 v1
  refine hK _ _ _ ?_
  clear hK hGc hGh
  clear K Gc Gh
  repeat refine pw_seq ?_
  refine pw_N [] (by rfl) (by rfl) fun K Gc Gh hK hGc hGh X hX0 hX => ?_
  simp -implicitDefEqProofs [hX]
  try clear hX0 hX X
  refine hGc _ _ _ _ _ _ _ fun hsuf => ((holdingP_ok x p h hx hf _).mono ?_).v
  rintro _ _ ⟨rfl, rfl⟩
  refine ⟨_, _, rfl, ?_⟩
  clear hGc hGh
  clear Gc Gh
  refine xs_go hsuf (D := []) (by rfl) fun Gc Gh hGc hGh X hX0 hX => ?_
  simp -implicitDefEqProofs [hX0, hX]
  try clear hX0 hX X
  intros
  refine hK _ _ _ ?_
  clear hK hGc hGh
  clear K Gc Gh
  repeat refine pw_seq ?_
  refine pw_N [] (by rfl) (by rfl) fun K Gc Gh hK hGc hGh X hX0 hX => ?_
  simp -implicitDefEqProofs [hX]
  try clear hX0 hX X
  refine hGc _ _ _ _ _ _ _ fun hsuf => ((hdy _).mono ?_).v
  rintro _ _ ⟨rfl, rfl⟩
  refine ⟨_, _, rfl, ?_⟩
  clear hGc hGh
  clear Gc Gh
  refine xs_go hsuf (D := []) (by rfl) fun Gc Gh hGc hGh X hX0 hX => ?_
  simp -implicitDefEqProofs [hX0, hX]
  try clear hX0 hX X
  intros
  refine hK _ _ _ ?_
  clear hK hGc hGh
  clear K Gc Gh
  repeat refine pw_seq ?_
  refine pw_block (pw_loopL (fun s : Nat => s ≤ ds.length) (fun k => [(5, I (W (W (holdTo x p x.cust.length) + (ds.take k).sum))), (13, L ds), (14, I ds.length), (15, I k)]) (fun _ => []) (fun s => ds.length - s) 0 [_, _] (by simp) (by simp [W_W]) rfl ?_)
  rintro k hk
  repeat refine pw_seq ?_
  refine pw_N [] (by rfl) (by rfl) fun K Gc Gh hK hGc hGh X hX0 hX => ?_
  simp -implicitDefEqProofs [hX0, hX]
  try clear hX0 hX X
  intros
  refine hK _ _ _ ?_
  clear hK hGc hGh
  clear K Gc Gh
  repeat refine pw_seq ?_
  refine pw_cond rfl (fun hc => ?_) (fun hc => ?_)
  · simp at hc
    obtain ⟨z, tl, a1, a2, a3, e0⟩ := el1 rfl ds k hc
    have hw : W (W (W (holdTo x p x.cust.length) + (ds.take k).sum) + z) = W (W (holdTo x p x.cust.length) + (ds.take (k + 1)).sum) := by rw [a3, sum_snoc, W_add]; congr 1; omega
    refine pw_skip (pw_seq (pw_block ?_))
    repeat refine pw_seq ?_
    refine pw_N [] (by rfl) (by rfl) fun K Gc Gh hK hGc hGh X hX0 hX => ?_
    simp -implicitDefEqProofs [hX0, hX, hc, e0]
    try clear hX0 hX X
    intros
    refine hK _ _ _ ?_
    clear hK hGc hGh
    clear K Gc Gh
    repeat refine pw_seq ?_
    refine pw_N [] (by rfl) (by rfl) fun K Gc Gh hK hGc hGh X hX0 hX => ?_
    simp -implicitDefEqProofs [hX0, hX]
    try clear hX0 hX X
    intros
    refine hK _ _ _ ?_
    clear hK hGc hGh
    clear K Gc Gh
    repeat refine pw_seq ?_
    refine pw_N [] (by rfl) (by rfl) fun K Gc Gh hK hGc hGh X hX0 hX => ?_
    simp -implicitDefEqProofs [hX0, hX]
    try clear hX0 hX X
    intros
    refine hK _ _ _ ?_
    clear hK hGc hGh
    clear K Gc Gh
    exact again_mk (k + 1) [] hc (by omega) (by simp [wrN k (by omega)]; exact hw) rfl (by simp)
  · simp at hc
    obtain rfl : k = ds.length := by omega
    rw [List.take_length]
    refine pw_exit ?_
    repeat refine pw_seq ?_
    refine pw_N [] (by rfl) (by rfl) fun K Gc Gh hK hGc hGh X hX0 hX => ?_
    simp -implicitDefEqProofs [hX0, hX]
    try clear hX0 hX X
    intros
    refine hK _ _ _ ?_
    clear hK hGc hGh
    clear K Gc Gh
    repeat refine pw_seq ?_
    exact pw_ret (ret_pure hd (by simp; rfl) rfl)

set_option maxRecDepth 20000 in
theorem refCost_ok (x : Inst) (p : Plan) (h : Serves x p) (hx : x.cust.length ≤ 1048576) (hf : ∀ c ∈ x.cust, CustFits c) (hd' : ∀ d ∈ p, DayOk d) : Pure Tryz.prog 23 [.agg (instL x), .agg [L p]] (I (costAll x p)) := by
  have hpn := h.sz.n
  refine pure_enter Tryz.func23 (by rfl) rfl Tryz.ntmps23 (congrArg Array.toList Tryz.results23) (by simp) fun S nx hd => ?_
  repeat refine pw_seq ?_
  refine pw_N [] (by rfl) (by rfl) fun K Gc Gh hK hGc hGh X hX0 hX => ?_
  simp -implicitDefEqProofs [hX0, hX]
  try clear hX0 hX X
  intro v0 v1
  refine hK _ _ _ ?_
  clear hK hGc hGh
  clear K Gc Gh
  repeat refine pw_seq ?_
  refine pw_N [] (by rfl) (by rfl) fun K Gc Gh hK hGc hGh X hX0 hX => ?_
  simp -implicitDefEqProofs [hX]
  try clear hX0 hX X
  refine hGc _ _ _ _ _ _ _ fun hsuf => ((holdingR_ok x p h hx hf _).mono ?_).v
  rintro _ _ ⟨rfl, rfl⟩
  refine ⟨_, _, rfl, ?_⟩
  clear hGc hGh
  clear Gc Gh
  refine xs_go hsuf (D := []) (by rfl) fun Gc Gh hGc hGh X hX0 hX => ?_
  simp -implicitDefEqProofs [hX0, hX]
  try clear hX0 hX X
  intros
  refine hK _ _ _ ?_
  clear hK hGc hGh
  clear K Gc Gh
  repeat refine pw_seq ?_
  refine pw_N [] (by rfl) (by rfl) fun K Gc Gh hK hGc hGh X hX0 hX => ?_
  simp -implicitDefEqProofs [hX0, hX]
  try clear hX0 hX X
  intros
  refine hK _ _ _ ?_
  clear hK hGc hGh
  clear K Gc Gh
  repeat refine pw_seq ?_
  refine pw_block (pw_loopL (fun s : Nat => s ≤ p.length) (fun k => [(2, .ptr nx v0 0), (3, .ptr (nx + 1) v1 0), (5, I (W (holdTo x p x.cust.length + ((p.take k).map (costZ x)).sum))), (6, I k)]) (fun _ => [.cells v0 25 (instL x), .cells v1 30 [L p]]) (fun s => p.length - s) 0 [] (by simp) (by simp) (by simp) ?_)
  rintro k hk
  repeat refine pw_seq ?_
  refine pw_N [] (by rfl) (by rfl) fun K Gc Gh hK hGc hGh X hX0 hX => ?_
  simp -implicitDefEqProofs [hX0, hX]
  try clear hX0 hX X
  intros
  refine hK _ _ _ ?_
  clear hK hGc hGh
  clear K Gc Gh
  repeat refine pw_seq ?_
  refine pw_cond rfl (fun hc => ?_) (fun hc => ?_)
  · simp at hc
    obtain ⟨d, tl, a1, a2, a3, e0⟩ := el1 rfl p k hc
    have hw : W (W (holdTo x p x.cust.length + ((p.take k).map (costZ x)).sum) + W (costZ x d)) = W (holdTo x p x.cust.length + ((p.take (k + 1)).map (costZ x)).sum) := by rw [a3, List.map_append, List.sum_append, W_add, W_add']; simp; congr 1; omega
    refine pw_skip (pw_seq (pw_block ?_))
    repeat refine pw_seq ?_
    refine pw_Y (some [nx, nx + 1]) (Row.pures [0, 1, 2, 3, 4, 5, 6, 7, 8, 9] .done) mixed (by rfl) (by rfl) (by rfl) fun K Gp Gc Gh hK hGp hGc hGh X hX0 hX1 hX2 hX => ?_
    simp -implicitDefEqProofs [hX2, hc, e0]
    try clear hX0 hX1 hX2 hX X
    refine hGp _ _ _ _ _ _ _ _ (costR_ok x d (hd' d (List.mem_of_getElem? a1))) ?_
    clear hGp hGc hGh
    clear Gp Gc Gh
    refine px_go fun Gp Gc Gh hGp hGc hGh X hX0 hX1 hX2 hX => ?_
    simp -implicitDefEqProofs [hX0, hX2]
    try clear hX0 hX1 hX2 hX X
    refine hK _ _ _ ?_
    clear hK hGp hGc hGh
    clear K Gp Gc Gh
    repeat refine pw_seq ?_
    refine pw_N [] (by rfl) (by rfl) fun K Gc Gh hK hGc hGh X hX0 hX => ?_
    simp -implicitDefEqProofs [hX0, hX]
    try clear hX0 hX X
    intros
    refine hK _ _ _ ?_
    clear hK hGc hGh
    clear K Gc Gh
    exact again_mk (k + 1) [] hc (by omega) (by rw [← hw]; simp [wrN k (by omega)]) rfl (by simp)
  · simp at hc
    obtain rfl : k = p.length := by omega
    have htl : (p.map (costZ x)).take p.length = p.map (costZ x) := List.take_of_length_le (by simp)
    refine pw_exit ?_
    repeat refine pw_seq ?_
    refine pw_N [] (by rfl) (by rfl) fun K Gc Gh hK hGc hGh X hX0 hX => ?_
    simp -implicitDefEqProofs [hX0, hX]
    try clear hX0 hX X
    intros
    refine hK _ _ _ ?_
    clear hK hGc hGh
    clear K Gc Gh
    repeat refine pw_seq ?_
    exact pw_ret (ret_pure hd (by simp; rfl) (by simp [htl, costAll, oneOf]))

def toursW (x : Inst) (p : Plan) (day : Int) : List Int :=
  if 0 ≤ day then match p[day.toNat]? with
    | some d => d.map fun t => W (wayZ x (t.map (·.c)))
    | none => []
  else []

set_option maxRecDepth 20000 in
theorem checkTours_ok (x : Inst) (p : Plan) (day : Int) (_ : p.length ≤ 1048576) (hd' : ∀ d ∈ p, DayOk d) : Pure Tryz.prog 21 [.agg (instL x), .agg [L p], I day] (L (toursW x p day)) := by
  refine pure_enter Tryz.func21 (by rfl) rfl Tryz.ntmps21 (congrArg Array.toList Tryz.results21) (by simp) fun S nx hd => ?_
  repeat refine pw_seq ?_
  refine pw_N [] (by rfl) (by rfl) fun K Gc Gh hK hGc hGh X hX0 hX => ?_
  simp -implicitDefEqProofs [hX0, hX]
  try clear hX0 hX X
  intro v0 v1
  refine hK _ _ _ ?_
  clear hK hGc hGh
  clear K Gc Gh
  by_cases h1 : day < 0
  · repeat refine pw_seq ?_
    refine pw_N [(2, 12)] (by rfl) (by rfl) fun K Gc Gh hK hGc hGh X hX0 hX => ?_
    simp -implicitDefEqProofs [hX0, hX, h1, undef]
    try clear hX0 hX X
    intros
    refine hK _ _ _ ?_
    clear hK hGc hGh
    clear K Gc Gh
    repeat refine pw_seq ?_
    refine pw_ct rfl ?_
    repeat refine pw_seq ?_
    refine pw_N [] (by rfl) (by rfl) fun K Gc Gh hK hGc hGh X hX0 hX => ?_
    simp -implicitDefEqProofs [hX0, hX]
    try clear hX0 hX X
    intros
    refine hK _ _ _ ?_
    clear hK hGc hGh
    clear K Gc Gh
    refine pw_nil_lst 6 rfl ?_
    repeat refine pw_seq ?_
    exact pw_ret (ret_pure hd (by simp; rfl) (by simp [toursW, show ¬ 0 ≤ day by omega, oneOf]))
  obtain ⟨k, rfl⟩ := Int.eq_ofNat_of_zero_le (show 0 ≤ day by omega)
  by_cases h2 : (p.length : Int) ≤ (k : Int)
  · have hres : toursW x p k = [] := by simp [toursW, List.getElem?_eq_none (show p.length ≤ k by omega)]
    have h2' : p.length ≤ k := by omega
    repeat refine pw_seq ?_
    refine pw_N [(2, 12)] (by rfl) (by rfl) fun K Gc Gh hK hGc hGh X hX0 hX => ?_
    simp -implicitDefEqProofs [hX0, hX, h1, h2]
    try clear hX0 hX X
    intros
    refine hK _ _ _ ?_
    clear hK hGc hGh
    clear K Gc Gh
    repeat refine pw_seq ?_
    refine pw_ct rfl ?_
    repeat refine pw_seq ?_
    refine pw_N [] (by rfl) (by rfl) fun K Gc Gh hK hGc hGh X hX0 hX => ?_
    simp -implicitDefEqProofs [hX0, hX]
    try clear hX0 hX X
    intros
    refine hK _ _ _ ?_
    clear hK hGc hGh
    clear K Gc Gh
    refine pw_nil_lst 6 rfl ?_
    repeat refine pw_seq ?_
    exact pw_ret (ret_pure hd (by simp; rfl) (by rw [hres]; rfl))
  have hk : k < p.length := by omega
  have h2' : ¬ p.length ≤ k := by omega
  obtain ⟨d, tl, a1, a2, a3, e0⟩ := el1 rfl p k hk
  have hdo := hd' d (List.mem_of_getElem? a1)
  have hdn := hdo.n
  have hres : toursW x p k = d.map fun t => W (wayZ x (t.map (·.c))) := by simp [toursW, a1]
  rw [hres]
  repeat refine pw_seq ?_
  refine pw_N [(2, 12)] (by rfl) (by rfl) fun K Gc Gh hK hGc hGh X hX0 hX => ?_
  simp -implicitDefEqProofs [hX0, hX, h1, h2]
  try clear hX0 hX X
  intros
  refine hK _ _ _ ?_
  clear hK hGc hGh
  clear K Gc Gh
  repeat refine pw_seq ?_
  refine pw_cf rfl ?_
  refine pw_skip ?_
  repeat refine pw_seq ?_
  refine pw_N [] (by rfl) (by rfl) fun K Gc Gh hK hGc hGh X hX0 hX => ?_
  simp -implicitDefEqProofs [hX0, hX]
  try clear hX0 hX X
  intros
  refine hK _ _ _ ?_
  clear hK hGc hGh
  clear K Gc Gh
  refine pw_seq (pw_nilX 7 3 1 rfl fun v2 => ?_)
  repeat refine pw_seq ?_
  refine pw_N [] (by rfl) (by rfl) fun K Gc Gh hK hGc hGh X hX0 hX => ?_
  simp -implicitDefEqProofs [hX0, hX, hk, e0]
  try clear hX0 hX X
  intros
  refine hK _ _ _ ?_
  clear hK hGc hGh
  clear K Gc Gh
  repeat refine pw_seq ?_
  refine pw_block (pw_loopL (fun s : Nat × List Int × Nat => s.1 ≤ d.length ∧ s.2.1 = (d.take s.1).map fun t => W (wayZ x (t.map (·.c)))) (fun (j, out, v2) => [(3, .ptr nx v0 0), (4, .ptr (nx + 1) v1 0), (7, .sl (nx + 2) v2 1 0 out.length), (24, L d), (25, I d.length), (26, I j)]) (fun (j, out, v2) => [.cells v0 25 (instL x), .cells v1 30 [L p], .cells v2 3 (out.flatMap Enc.enc)]) (fun s => d.length - s.1) (0, [], v2) [] (by simp) (by simp) (by simp) ?_)
  rintro ⟨j, out, v2⟩ ⟨hj, ho⟩
  simp only at hj ho ⊢
  have hol : out.length = j := by rw [ho]; simp; omega
  repeat refine pw_seq ?_
  refine pw_N [] (by rfl) (by rfl) fun K Gc Gh hK hGc hGh X hX0 hX => ?_
  simp -implicitDefEqProofs [hX0, hX]
  try clear hX0 hX X
  intros
  refine hK _ _ _ ?_
  clear hK hGc hGh
  clear K Gc Gh
  repeat refine pw_seq ?_
  refine pw_cond rfl (fun hc => ?_) (fun hc => ?_)
  · simp at hc
    obtain ⟨t, tl2, b1, b2, b3, e2⟩ := el1 rfl d j hc
    have htm := List.mem_of_getElem? b1
    refine pw_skip (pw_seq (pw_block ?_))
    repeat refine pw_seq ?_
    refine pw_N [] (by rfl) (by rfl) fun K Gc Gh hK hGc hGh X hX0 hX => ?_
    simp -implicitDefEqProofs [hX0, hX, hc, e2]
    try clear hX0 hX X
    intro v3
    refine hK _ _ _ ?_
    clear hK hGc hGh
    clear K Gc Gh
    repeat refine pw_seq ?_
    refine pw_N [] (by rfl) (by rfl) fun K Gc Gh hK hGc hGh X hX0 hX => ?_
    simp -implicitDefEqProofs [hX]
    try clear hX0 hX X
    refine hGc _ _ _ _ _ _ _ fun hsuf => ((lengthP_ok x t (hdo.t t htm) (hdo.s t htm) _).mono ?_).v
    rintro _ _ ⟨rfl, rfl⟩
    refine ⟨_, _, rfl, ?_⟩
    clear hGc hGh
    clear Gc Gh
    refine xs_go hsuf (D := []) (by rfl) fun Gc Gh hGc hGh X hX0 hX => ?_
    simp -implicitDefEqProofs [hX0, hX]
    try clear hX0 hX X
    refine ⟨by omega, ?_⟩
    intros
    refine hK _ _ _ ?_
    clear hK hGc hGh
    clear K Gc Gh
    repeat refine pw_seq ?_
    refine pw_N [] (by rfl) (by rfl) fun K Gc Gh hK hGc hGh X hX0 hX => ?_
    simp -implicitDefEqProofs [hX0, hX]
    try clear hX0 hX X
    intros
    refine hK _ _ _ ?_
    clear hK hGc hGh
    clear K Gc Gh
    exact again_mk (j + 1, out ++ [W (wayZ x (t.map (·.c)))], v2 + 1) [_] ⟨hc, by rw [b3, ho]; simp⟩ (by simp; omega) (by simp [wrN j (by omega)]) rfl (by simp; rfl)
  · simp at hc
    obtain rfl : j = d.length := by omega
    rw [List.take_length] at ho
    refine pw_exit ?_
    repeat refine pw_seq ?_
    refine pw_N [] (by rfl) (by rfl) fun K Gc Gh hK hGc hGh X hX0 hX => ?_
    simp -implicitDefEqProofs [hX0, hX]
    try clear hX0 hX X
    intros
    refine hK _ _ _ ?_
    clear hK hGc hGh
    clear K Gc Gh
    refine pw_frz 2 rfl ?_
    repeat refine pw_seq ?_
    exact pw_ret (ret_pure hd (by simp; rfl) (by rw [ho]; simp [oneOf]))

end Go.Proofs.YtlkcdaeknioanaaGreat.Pv
