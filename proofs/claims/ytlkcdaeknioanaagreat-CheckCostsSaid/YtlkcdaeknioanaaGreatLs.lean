/- Whether a customer is served: check.Customer and tranterref16.Customer. -/
import Derived.Test.YtlkcdaeknioanaaGreatLn
import Derived.Test.YtlkcdaeknioanaaGreatLh
namespace Go.Proofs.YtlkcdaeknioanaaGreat.Pv
open Go

abbrev viewP (x : Inst) (p : Plan) (i : Int) : List PV := [I x.days, I x.veh, I x.cap, I x.len, L x.cust, L x.dist, L p, I i]

def perE (c : Cust) (v : List Visit) : Int := if (v.any fun s => decide (s.q ≠ c.demand)) = true then 9 else if ofD (v.map (·.d)) ∈ c.pats then 0 else 10
def custE (x : Inst) (p : Plan) (i : Nat) : Int :=
  match x.cust[i]? with
  | none => 5
  | some c => if c.kind = 2 then holdsE c (bringsV (visOf i (told 0 p)) x.days) else perE c (visOf i (told 0 p))

structure Serves (x : Inst) (p : Plan) : Prop where
  sz : PlanOk p
  q : ∀ s ∈ told 0 p, 0 ≤ s.1.q ∧ s.1.q ≤ 2147483648
  days : p.length ≤ 64

theorem told_day : ∀ (p : Plan) (i : Nat) (x : Stop × Nat), x ∈ told i p → i ≤ x.2 ∧ x.2 < i + p.length
  | [], _, _, h => by cases h
  | d :: p, i, x, h => by
    simp only [told, List.mem_append, List.mem_map] at h
    simp only [List.length_cons]
    rcases h with ⟨s, _, rfl⟩ | h
    · simp only; omega
    · have := told_day p (i + 1) x h; omega

theorem vis_ok {x : Inst} {p : Plan} (h : Serves x p) (c : Int) : VisOk (visOf c (told 0 p)) ∧ ∀ s ∈ visOf c (told 0 p), 0 ≤ s.d ∧ s.d ≤ 63 := by
  have hd : ∀ s ∈ visOf c (told 0 p), (0 ≤ s.q ∧ s.q ≤ 2147483648) ∧ 0 ≤ s.d ∧ s.d ≤ 63 := by
    intro s hs
    simp only [visOf, List.mem_map, List.mem_filter] at hs
    obtain ⟨y, ⟨hy, _⟩, rfl⟩ := hs
    have h1 := h.q y hy
    have h2 := told_day p 0 y hy
    have h3 := h.days
    simp only; omega
  exact ⟨⟨Nat.le_trans (visOf_len _ _) h.sz.told, fun s hs => (hd s hs).1, fun s hs => by have := (hd s hs).2; unfold I64; omega⟩, fun s hs => (hd s hs).2⟩

set_option maxRecDepth 20000 in
theorem brings_view (x : Inst) (p : Plan) (i : Nat) (h : Serves x p) : Pure Tryz.prog 37 [.agg (viewP x p i)] (L (bringsV (visOf i (told 0 p)) x.days)) := by
  have h1 := visitsP_ok p i h.sz
  have h2 := brings_ok _ x.days (vis_ok h i).1
  generalize bringsV (visOf i (told 0 p)) x.days = q at h2 ⊢
  generalize visOf i (told 0 p) = v at h1 h2
  refine pure_enter Tryz.func37 (by rfl) rfl Tryz.ntmps37 (congrArg Array.toList Tryz.results37) (by simp) fun S nx hd => ?_
  repeat refine pw_seq ?_
  refine pw_N [] (by rfl) (by rfl) fun K Gc Gh hK hGc hGh X hX0 hX => ?_
  simp -implicitDefEqProofs [hX0, hX]
  try clear hX0 hX X
  intro v0
  refine hK _ _ _ ?_
  clear hK hGc hGh
  clear K Gc Gh
  repeat refine pw_seq ?_
  refine pw_Y (some [nx]) (Row.pures [0, 1, 2, 3, 4, 5, 6, 7, 8, 9] .done) mixed (by rfl) (by rfl) (by rfl) fun K Gp Gc Gh hK hGp hGc hGh X hX0 hX1 hX2 hX => ?_
  simp -implicitDefEqProofs [hX2]
  try clear hX0 hX1 hX2 hX X
  refine hGp _ _ _ _ _ _ _ _ (h1) ?_
  clear hGp hGc hGh
  clear Gp Gc Gh
  refine px_go fun Gp Gc Gh hGp hGc hGh X hX0 hX1 hX2 hX => ?_
  simp -implicitDefEqProofs [hX2]
  try clear hX0 hX1 hX2 hX X
  refine hGp _ _ _ _ _ _ _ _ (h2) ?_
  clear hGp hGc hGh
  clear Gp Gc Gh
  refine px_go fun Gp Gc Gh hGp hGc hGh X hX0 hX1 hX2 hX => ?_
  simp -implicitDefEqProofs [hX0, hX2]
  try clear hX0 hX1 hX2 hX X
  refine hK _ _ _ ?_
  clear hK hGp hGc hGh
  clear K Gp Gc Gh
  repeat refine pw_seq ?_
  exact pw_ret (ret_pure hd (by simp; rfl) rfl)

set_option maxRecDepth 20000 in
theorem tank_view (x : Inst) (p : Plan) (i : Nat) (c : Cust) (h : Serves x p) (hc : x.cust[i]? = some c) (hf : CustFits c) : Pure Tryz.prog 56 [.agg (viewP x p i)] (I (holdsE c (bringsV (visOf i (told 0 p)) x.days))) := by
  have h1 := brings_view x p i h
  have hil : i < x.cust.length := (List.getElem?_eq_some_iff.1 hc).1
  obtain ⟨c', tl, a1, a2, a3, _, e0⟩ := el 8 rfl x.cust i hil
  obtain rfl : c' = c := by rw [a1] at hc; exact Option.some.inj hc
  have h2 := holds_ok c' (bringsV (visOf i (told 0 p)) x.days) hf (by rw [bringsV_len]; omega)
  generalize bringsV (visOf i (told 0 p)) x.days = q at h1 h2 ⊢
  refine pure_enter Tryz.func56 (by rfl) rfl Tryz.ntmps56 (congrArg Array.toList Tryz.results56) (by simp) fun S nx hd => ?_
  repeat refine pw_seq ?_
  refine pw_N [] (by rfl) (by rfl) fun K Gc Gh hK hGc hGh X hX0 hX => ?_
  simp -implicitDefEqProofs [hX0, hX]
  try clear hX0 hX X
  intro v0
  refine hK _ _ _ ?_
  clear hK hGc hGh
  clear K Gc Gh
  repeat refine pw_seq ?_
  refine pw_Y (some [nx]) (Row.pures [0, 1, 2, 3, 4, 5, 6, 7, 8, 9, 10] .done) mixed (by rfl) (by rfl) (by rfl) fun K Gp Gc Gh hK hGp hGc hGh X hX0 hX1 hX2 hX => ?_
  simp -implicitDefEqProofs [hX2, hil, e0]
  try clear hX0 hX1 hX2 hX X
  refine hGp _ _ _ _ _ _ _ _ (h1) ?_
  clear hGp hGc hGh
  clear Gp Gc Gh
  refine px_go fun Gp Gc Gh hGp hGc hGh X hX0 hX1 hX2 hX => ?_
  simp -implicitDefEqProofs [hX2]
  try clear hX0 hX1 hX2 hX X
  refine hGp _ _ _ _ _ _ _ _ (h2) ?_
  clear hGp hGc hGh
  clear Gp Gc Gh
  refine px_go fun Gp Gc Gh hGp hGc hGh X hX0 hX1 hX2 hX => ?_
  simp -implicitDefEqProofs [hX0, hX2]
  try clear hX0 hX1 hX2 hX X
  refine hK _ _ _ ?_
  clear hK hGp hGc hGh
  clear K Gp Gc Gh
  repeat refine pw_seq ?_
  exact pw_ret (ret_pure hd (by simp; rfl) rfl)

set_option maxRecDepth 20000 in
theorem periodic_view (x : Inst) (p : Plan) (i : Nat) (c : Cust) (h : Serves x p) (hc : x.cust[i]? = some c) (hpl : c.pats.length ≤ 1048576) : Pure Tryz.prog 55 [.agg (viewP x p i)] (I (perE c (visOf i (told 0 p)))) := by
  have h1 := visitsP_ok p i h.sz
  have h2 := daysP_ok p i h.sz
  have hvl := (vis_ok h i).1.n
  have hil : i < x.cust.length := (List.getElem?_eq_some_iff.1 hc).1
  obtain ⟨c', tl, a1, a2, a3, _, e0⟩ := el 8 rfl x.cust i hil
  obtain rfl : c' = c := by rw [a1] at hc; exact Option.some.inj hc
  generalize visOf i (told 0 p) = v at h1 h2 hvl ⊢
  have h3 := of_ok (v.map (·.d)) (by simpa using hvl)
  have h4 := contains_ok c'.pats (ofD (v.map (·.d))) hpl
  unfold perE
  generalize ofD (v.map (·.d)) = set at h3 h4 ⊢
  refine pure_enter Tryz.func55 (by rfl) rfl Tryz.ntmps55 (congrArg Array.toList Tryz.results55) (by simp) fun S nx hd => ?_
  repeat refine pw_seq ?_
  refine pw_N [] (by rfl) (by rfl) fun K Gc Gh hK hGc hGh X hX0 hX => ?_
  simp -implicitDefEqProofs [hX0, hX]
  try clear hX0 hX X
  intro v0
  refine hK _ _ _ ?_
  clear hK hGc hGh
  clear K Gc Gh
  repeat refine pw_seq ?_
  refine pw_N [] (by rfl) (by rfl) fun K Gc Gh hK hGc hGh X hX0 hX => ?_
  simp -implicitDefEqProofs [hX0, hX, hil, e0]
  try clear hX0 hX X
  intro v1
  refine hK _ _ _ ?_
  clear hK hGc hGh
  clear K Gc Gh
  repeat refine pw_seq ?_
  refine pw_N [] (by rfl) (by rfl) fun K Gc Gh hK hGc hGh X hX0 hX => ?_
  simp -implicitDefEqProofs [hX]
  try clear hX0 hX X
  refine hGc _ _ _ _ _ _ _ fun hsuf => ((h1 _).mono ?_).v
  rintro _ _ ⟨rfl, rfl⟩
  refine ⟨_, _, rfl, ?_⟩
  clear hGc hGh
  clear Gc Gh
  refine xs_go hsuf (D := []) (by rfl) fun Gc Gh hGc hGh X hX0 hX => ?_
  simp -implicitDefEqProofs [hX0, hX]
  try clear hX0 hX X
  intros
  refine hK _ _ _ ?_
  clear hK hGc hGh
  clear K Gc Gh
  repeat refine pw_seq ?_
  refine pw_block (pw_loopL (fun s : Nat => s ≤ v.length ∧ ((v.take s).any fun s => decide (s.q ≠ c'.demand)) = false) (fun k => [(1, .ptr nx v0 0), (3, .ptr (nx + 1) v1 0), (18, L v), (19, I v.length), (20, I k)]) (fun _ => [.cells v0 76 (viewP x p i), .cells v1 54 (custL c')]) (fun s => v.length - s) 0 [] (by simp) (by simp) (by simp) ?_)
  rintro k ⟨hk, ho⟩
  repeat refine pw_seq ?_
  refine pw_N [] (by rfl) (by rfl) fun K Gc Gh hK hGc hGh X hX0 hX => ?_
  simp -implicitDefEqProofs [hX0, hX]
  try clear hX0 hX X
  intros
  refine hK _ _ _ ?_
  clear hK hGc hGh
  clear K Gc Gh
  repeat refine pw_seq ?_
  refine pw_cond rfl (fun hc1 => ?_) (fun hc1 => ?_)
  · simp at hc1
    obtain ⟨s, tl2, b1, b2, b3, e1, e2⟩ := el 2 rfl v k hc1
    refine pw_skip (pw_seq (pw_block ?_))
    repeat refine pw_seq ?_
    refine pw_N [] (by rfl) (by rfl) fun K Gc Gh hK hGc hGh X hX0 hX => ?_
    simp -implicitDefEqProofs [hX0, hX, hc1, e2]
    try clear hX0 hX X
    intro v2
    refine hK _ _ _ ?_
    clear hK hGc hGh
    clear K Gc Gh
    by_cases hq : s.q = c'.demand
    · repeat refine pw_seq ?_
      refine pw_N [] (by rfl) (by rfl) fun K Gc Gh hK hGc hGh X hX0 hX => ?_
      simp -implicitDefEqProofs [hX0, hX, hq]
      try clear hX0 hX X
      intros
      refine hK _ _ _ ?_
      clear hK hGc hGh
      clear K Gc Gh
      repeat refine pw_seq ?_
      refine pw_cf (by simp) ?_
      refine pw_skip ?_
      repeat refine pw_seq ?_
      refine pw_N [] (by rfl) (by rfl) fun K Gc Gh hK hGc hGh X hX0 hX => ?_
      simp -implicitDefEqProofs [hX0, hX]
      try clear hX0 hX X
      intros
      refine hK _ _ _ ?_
      clear hK hGc hGh
      clear K Gc Gh
      exact again_mk (k + 1) [_] ⟨hc1, by rw [b3, List.any_append, ho]; simp [hq]⟩ (by omega) (by simp [wrN k (by omega)]) rfl rfl
    · have hany : (v.any fun s => decide (s.q ≠ c'.demand)) = true := by rw [List.any_eq_true]; exact ⟨s, List.mem_of_getElem? b1, by simpa using hq⟩
      repeat refine pw_seq ?_
      refine pw_N [] (by rfl) (by rfl) fun K Gc Gh hK hGc hGh X hX0 hX => ?_
      simp -implicitDefEqProofs [hX0, hX, hq]
      try clear hX0 hX X
      intros
      refine hK _ _ _ ?_
      clear hK hGc hGh
      clear K Gc Gh
      repeat refine pw_seq ?_
      refine pw_ct (by simp) ?_
      repeat refine pw_seq ?_
      refine pw_N [] (by rfl) (by rfl) fun K Gc Gh hK hGc hGh X hX0 hX => ?_
      simp -implicitDefEqProofs [hX0, hX]
      try clear hX0 hX X
      intros
      refine hK _ _ _ ?_
      clear hK hGc hGh
      clear K Gc Gh
      repeat refine pw_seq ?_
      exact pw_ret (ret_pure hd (by simp; rfl) (by rw [if_pos hany]; rfl))
  · simp at hc1
    obtain rfl : k = v.length := by omega
    rw [List.take_length] at ho
    refine pw_exit ?_
    repeat refine pw_seq ?_
    refine pw_N [] (by rfl) (by rfl) fun K Gc Gh hK hGc hGh X hX0 hX => ?_
    simp -implicitDefEqProofs [hX]
    try clear hX0 hX X
    refine hGc _ _ _ _ _ _ _ fun hsuf => ((h2 _).mono ?_).v
    rintro _ _ ⟨rfl, rfl⟩
    refine ⟨_, _, rfl, ?_⟩
    clear hGc hGh
    clear Gc Gh
    refine xs_go hsuf (D := []) (by rfl) fun Gc Gh hGc hGh X hX0 hX => ?_
    simp -implicitDefEqProofs [hX]
    try clear hX0 hX X
    refine hGc _ _ _ _ _ _ _ fun hsuf => ((h3 _).mono ?_).v
    rintro _ _ ⟨rfl, rfl⟩
    refine ⟨_, _, rfl, ?_⟩
    clear hGc hGh
    clear Gc Gh
    refine xs_go hsuf (D := []) (by rfl) fun Gc Gh hGc hGh X hX0 hX => ?_
    simp -implicitDefEqProofs [hX0, hX]
    try clear hX0 hX X
    intros
    refine hK _ _ _ ?_
    clear hK hGc hGh
    clear K Gc Gh
    repeat refine pw_seq ?_
    refine pw_N [] (by rfl) (by rfl) fun K Gc Gh hK hGc hGh X hX0 hX => ?_
    simp -implicitDefEqProofs [hX]
    try clear hX0 hX X
    refine hGc _ _ _ _ _ _ _ fun hsuf => ((h4 _).mono ?_).v
    rintro _ _ ⟨rfl, rfl⟩
    refine ⟨_, _, rfl, ?_⟩
    clear hGc hGh
    clear Gc Gh
    refine xs_go hsuf (D := []) (by rfl) fun Gc Gh hGc hGh X hX0 hX => ?_
    simp -implicitDefEqProofs [hX0, hX]
    try clear hX0 hX X
    intros
    refine hK _ _ _ ?_
    clear hK hGc hGh
    clear K Gc Gh
    by_cases hm : set ∈ c'.pats
    · repeat refine pw_seq ?_
      refine pw_cf (by simp [hm]) ?_
      refine pw_skip ?_
      repeat refine pw_seq ?_
      refine pw_N [] (by rfl) (by rfl) fun K Gc Gh hK hGc hGh X hX0 hX => ?_
      simp -implicitDefEqProofs [hX0, hX]
      try clear hX0 hX X
      intros
      refine hK _ _ _ ?_
      clear hK hGc hGh
      clear K Gc Gh
      repeat refine pw_seq ?_
      exact pw_ret (ret_pure hd (by simp; rfl) (by rw [ho]; simp [hm, oneOf]))
    · repeat refine pw_seq ?_
      refine pw_ct (by simp [hm]) ?_
      repeat refine pw_seq ?_
      refine pw_N [] (by rfl) (by rfl) fun K Gc Gh hK hGc hGh X hX0 hX => ?_
      simp -implicitDefEqProofs [hX0, hX]
      try clear hX0 hX X
      intros
      refine hK _ _ _ ?_
      clear hK hGc hGh
      clear K Gc Gh
      repeat refine pw_seq ?_
      exact pw_ret (ret_pure hd (by simp; rfl) (by rw [ho]; simp [hm, oneOf]))

/-- What must be so of an instance's customers. -/
structure CustsOk (x : Inst) : Prop where
  n : x.cust.length ≤ 1048576
  kind : ∀ c ∈ x.cust, c.kind = 1 ∨ c.kind = 2
  fits : ∀ c ∈ x.cust, CustFits c
  pats : ∀ c ∈ x.cust, c.pats.length ≤ 1048576
  plt : ∀ c ∈ x.cust, ∀ p ∈ c.pats, p < 2 ^ 64

set_option maxRecDepth 20000 in
theorem checkCust_ok (x : Inst) (p : Plan) (i : Nat) (h : Serves x p) (hx : CustsOk x) (hi : i < x.cust.length) : Pure Tryz.prog 29 [.agg (instL x), .agg [L p], I i] (I (custE x p i)) := by
  obtain ⟨c, tl, a1, a2, a3, _, e0⟩ := el 8 rfl x.cust i hi
  have hcm := List.mem_of_getElem? a1
  have hres : custE x p i = if c.kind = 2 then holdsE c (bringsV (visOf i (told 0 p)) x.days) else perE c (visOf i (told 0 p)) := by simp only [custE, a1]
  rw [hres]
  have g0 : ¬ (i : Int) < 0 := by omega
  have g1 : ¬ (x.cust.length : Int) ≤ (i : Int) := by omega
  refine pure_enter Tryz.func29 (by rfl) rfl Tryz.ntmps29 (congrArg Array.toList Tryz.results29) (by simp) fun S nx hd => ?_
  repeat refine pw_seq ?_
  refine pw_N [] (by rfl) (by rfl) fun K Gc Gh hK hGc hGh X hX0 hX => ?_
  simp -implicitDefEqProofs [hX0, hX]
  try clear hX0 hX X
  intro v0 v1
  refine hK _ _ _ ?_
  clear hK hGc hGh
  clear K Gc Gh
  repeat refine pw_seq ?_
  refine pw_N [(2, 12)] (by rfl) (by rfl) fun K Gc Gh hK hGc hGh X hX0 hX => ?_
  simp -implicitDefEqProofs [hX0, hX, g0, g1]
  try clear hX0 hX X
  intros
  refine hK _ _ _ ?_
  clear hK hGc hGh
  clear K Gc Gh
  repeat refine pw_seq ?_
  refine pw_cf (by simp) ?_
  refine pw_skip ?_
  repeat refine pw_seq ?_
  refine pw_N [] (by rfl) (by rfl) fun K Gc Gh hK hGc hGh X hX0 hX => ?_
  simp -implicitDefEqProofs [hX]
  try clear hX0 hX X
  intro v2
  refine hGh _ _ _ _ _ fun hsuf => po_mapUpdate (.inr rfl) Tryz.underlying96 Tryz.underlying3 rfl (by simp; exact ⟨rfl, rfl⟩) (by simp; rfl) (by simp; rfl) (by simp [findP]; rfl) ?_
  refine ⟨_, _, ext_set _ (by omega) (by simp), ?_⟩
  clear hGc hGh
  clear Gc Gh
  refine xs_go hsuf (D := []) (by rfl) fun Gc Gh hGc hGh X hX0 hX => ?_
  simp -implicitDefEqProofs [hX]
  clear hX0 hX X
  refine hGh _ _ _ _ _ fun hsuf => po_mapUpdate (.inr rfl) Tryz.underlying96 Tryz.underlying3 rfl (by simp; exact ⟨rfl, rfl⟩) (by simp; rfl) (by simp; rfl) (by simp [findP, putP]; rfl) ?_
  refine ⟨_, _, ext_set _ (by omega) (by simp), ?_⟩
  clear hGc hGh
  clear Gc Gh
  refine xs_go hsuf (D := []) (by rfl) fun Gc Gh hGc hGh X hX0 hX => ?_
  simp -implicitDefEqProofs [hX0, hX, putP]
  clear hX0 hX X
  intros
  refine hK _ _ _ ?_
  clear hK hGc hGh
  clear K Gc Gh
  rcases hx.kind c hcm with hk | hk
  · repeat refine pw_seq ?_
    refine pw_N [] (by rfl) (by rfl) fun K Gc Gh hK hGc hGh X hX0 hX => ?_
    simp -implicitDefEqProofs [hX, hi, e0, hk]
    try clear hX0 hX X
    refine hGh _ _ _ _ _ fun hsuf => po_lookup rfl Tryz.underlying96 Tryz.underlying3 rfl (by simp; exact ⟨rfl, rfl⟩) (by simp; rfl) (by simp; rfl) (by simp [findP]; rfl) (by simp; rfl) ?_
    refine ⟨_, _, rfl, ?_⟩
    clear hGc hGh
    clear Gc Gh
    refine xs_go hsuf (D := []) (by rfl) fun Gc Gh hGc hGh X hX0 hX => ?_
    simp -implicitDefEqProofs [hX0, hX, lookP]
    clear hX0 hX X
    intros
    refine hK _ _ _ ?_
    clear hK hGc hGh
    clear K Gc Gh
    repeat refine pw_seq ?_
    refine pw_N [] (by rfl) (by rfl) fun K Gc Gh hK hGc hGh X hX0 hX => ?_
    simp -implicitDefEqProofs [hX0, hX]
    try clear hX0 hX X
    intros
    refine hK _ _ _ ?_
    clear hK hGc hGh
    clear K Gc Gh
    repeat refine pw_seq ?_
    refine pw_cf (by simp) ?_
    refine pw_skip ?_
    repeat refine pw_seq ?_
    refine pw_N [] (by rfl) (by rfl) fun K Gc Gh hK hGc hGh X hX0 hX => ?_
    simp -implicitDefEqProofs [hX]
    try clear hX0 hX X
    refine hGc _ _ _ _ _ _ _ fun hsuf => ((periodic_view x p i c h a1 (hx.pats c hcm) _).mono ?_).v
    rintro _ _ ⟨rfl, rfl⟩
    refine ⟨_, _, rfl, ?_⟩
    clear hGc hGh
    clear Gc Gh
    refine xs_go hsuf (D := []) (by rfl) fun Gc Gh hGc hGh X hX0 hX => ?_
    simp -implicitDefEqProofs [hX0, hX]
    try clear hX0 hX X
    intros
    refine hK _ _ _ ?_
    clear hK hGc hGh
    clear K Gc Gh
    repeat refine pw_seq ?_
    exact pw_ret (ret_pure hd (by simp; rfl) (by simp [hk, oneOf]))
  · repeat refine pw_seq ?_
    refine pw_N [] (by rfl) (by rfl) fun K Gc Gh hK hGc hGh X hX0 hX => ?_
    simp -implicitDefEqProofs [hX, hi, e0, hk]
    try clear hX0 hX X
    refine hGh _ _ _ _ _ fun hsuf => po_lookup rfl Tryz.underlying96 Tryz.underlying3 rfl (by simp; exact ⟨rfl, rfl⟩) (by simp; rfl) (by simp; rfl) (by simp [findP]; rfl) (by simp; rfl) ?_
    refine ⟨_, _, rfl, ?_⟩
    clear hGc hGh
    clear Gc Gh
    refine xs_go hsuf (D := []) (by rfl) fun Gc Gh hGc hGh X hX0 hX => ?_
    simp -implicitDefEqProofs [hX0, hX, lookP]
    clear hX0 hX X
    intros
    refine hK _ _ _ ?_
    clear hK hGc hGh
    clear K Gc Gh
    repeat refine pw_seq ?_
    refine pw_N [] (by rfl) (by rfl) fun K Gc Gh hK hGc hGh X hX0 hX => ?_
    simp -implicitDefEqProofs [hX0, hX]
    try clear hX0 hX X
    intros
    refine hK _ _ _ ?_
    clear hK hGc hGh
    clear K Gc Gh
    repeat refine pw_seq ?_
    refine pw_cf (by simp) ?_
    refine pw_skip ?_
    repeat refine pw_seq ?_
    refine pw_N [] (by rfl) (by rfl) fun K Gc Gh hK hGc hGh X hX0 hX => ?_
    simp -implicitDefEqProofs [hX]
    try clear hX0 hX X
    refine hGc _ _ _ _ _ _ _ fun hsuf => ((tank_view x p i c h a1 (hx.fits c hcm) _).mono ?_).v
    rintro _ _ ⟨rfl, rfl⟩
    refine ⟨_, _, rfl, ?_⟩
    clear hGc hGh
    clear Gc Gh
    refine xs_go hsuf (D := []) (by rfl) fun Gc Gh hGc hGh X hX0 hX => ?_
    simp -implicitDefEqProofs [hX0, hX]
    try clear hX0 hX X
    intros
    refine hK _ _ _ ?_
    clear hK hGc hGh
    clear K Gc Gh
    repeat refine pw_seq ?_
    exact pw_ret (ret_pure hd (by simp; rfl) (by simp [hk, oneOf]))

end Go.Proofs.YtlkcdaeknioanaaGreat.Pv
