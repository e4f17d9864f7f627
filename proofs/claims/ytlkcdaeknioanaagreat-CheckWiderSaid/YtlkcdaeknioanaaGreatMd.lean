/- The walk of the law CheckWider. -/
import Derived.Test.YtlkcdaeknioanaaGreatMb
namespace Go.Proofs.YtlkcdaeknioanaaGreat.Pv
open Go

theorem rem_le {d : Int} (h : 0 ≤ d) : 0 ≤ Int.tmod d 1001 ∧ Int.tmod d 1001 ≤ 1000 := by
  rw [Int.tmod_eq_emod_of_nonneg h]; omega

/-- The same instance, with more of what it has. -/
def more (x : Inst) (a b c : Int) : Inst := ⟨x.days, x.veh + a, x.cap + b, x.len + c, x.cust, x.dist⟩

theorem wayS_more (x : Inst) (a b c : Int) : ∀ (l : List Int) (k : Int), wayS (more x a b c) k l = wayS x k l
  | [], _ => rfl
  | y :: l, k => by simp only [wayS]; rw [wayS_more x a b c l (y + 1)]; rfl
theorem wayZ_more (x : Inst) (l : List Int) (a b c : Int) : wayZ (more x a b c) l = wayZ x l := by
  unfold wayZ; rw [wayS_more]

theorem mayT_more {x : Inst} {t : Tour} {a b c : Int} (hb : 0 ≤ b) (hc : 0 ≤ c) (h : mayT x t = 0) : mayT (more x a b c) t = 0 := by
  unfold mayT at h ⊢
  have e1 : stopsB (more x a b c) t = stopsB x t := rfl
  have e2 : wayZ (more x a b c) (t.map (·.c)) = wayZ x (t.map (·.c)) := wayZ_more x _ a b c
  rw [e1, e2]
  have e3 : (more x a b c).cap = x.cap + b := rfl
  have e4 : (more x a b c).len = x.len + c := rfl
  rw [e3, e4]
  split at h
  · omega
  split at h
  · omega
  split at h
  · omega
  split at h
  · omega
  rename_i h1 h2 h3 h4
  rw [if_neg h1, if_neg h2, if_neg (by omega), if_neg (by omega)]

theorem dayT_more {x : Inst} {d : Day} {a b c : Int} (ha : 0 ≤ a) (hb : 0 ≤ b) (hc : 0 ≤ c) (h : dayT x d = 0) : dayT (more x a b c) d = 0 := by
  unfold dayT at h ⊢
  have e : d.find? (fun t => mayT x t != 0) = none := by
    cases hf : d.find? (fun t => mayT x t != 0) with
    | none => rfl
    | some t =>
      rw [hf] at h
      have := List.find?_some hf
      simp [h] at this
  have e' : d.find? (fun t => mayT (more x a b c) t != 0) = none := by
    rw [List.find?_eq_none] at e ⊢
    intro t ht
    have := e t ht
    simp only [bne_iff_ne, ne_eq, Decidable.not_not] at this ⊢
    exact mayT_more hb hc this
  rw [e] at h; rw [e']
  simp only at h ⊢
  have e3 : (more x a b c).veh = x.veh + a := rfl
  rw [e3]
  split at h
  · omega
  split at h
  · omega
  rename_i h1 h2
  rw [if_neg h1, if_neg (by omega)]

theorem mayI_more {x : Inst} {a b c : Int} (ha : 0 ≤ a) (hb : 0 ≤ b) (hc : 0 ≤ c) (ha' : x.veh + a ≤ 2147483648) (hb' : x.cap + b ≤ 2147483648) (hc' : x.len + c ≤ 2147483648) (h : mayI x = true) : mayI (more x a b c) = true := by
  unfold mayI at h ⊢
  simp only [Bool.and_eq_true, fromB, decide_eq_true_eq] at h ⊢
  obtain ⟨⟨⟨⟨⟨⟨h1, h2⟩, h3⟩, h4⟩, h5⟩, h6⟩, h7⟩ := h
  have e1 : (more x a b c).veh = x.veh + a := rfl
  have e2 : (more x a b c).cap = x.cap + b := rfl
  have e3 : (more x a b c).len = x.len + c := rfl
  exact ⟨⟨⟨⟨⟨⟨h1, h2⟩, by rw [e1]; omega⟩, by rw [e2]; omega⟩, by rw [e3]; omega⟩, h6⟩, h7⟩

theorem planE_more {x : Inst} {p : Plan} {a b c : Int} (ha : 0 ≤ a) (hb : 0 ≤ b) (hc : 0 ≤ c) (ha' : x.veh + a ≤ 2147483648) (hb' : x.cap + b ≤ 2147483648) (hc' : x.len + c ≤ 2147483648) (h : planE x p = 0) : planE (more x a b c) p = 0 := by
  unfold planE at h ⊢
  split at h
  · omega
  split at h
  · omega
  split at h
  · contradiction
  rename_i h1 h2 h3
  have hm := mayI_more ha hb hc ha' hb' hc' (by simpa using h1)
  rw [if_neg (by simp [hm]), if_neg (show ¬ ((p.length : Int) ≠ (more x a b c).days) from h2)]
  have h3' : firstE (p.map (dayT x)) = 0 := by omega
  rw [firstE_iff] at h3'
  have h4 : firstE (p.map (dayT (more x a b c))) = 0 := by
    rw [firstE_iff]
    intro e he
    obtain ⟨d, hd, rfl⟩ := List.mem_map.1 he
    exact dayT_more ha hb hc (h3' _ (List.mem_map.2 ⟨d, hd, rfl⟩))
  rw [if_neg (by omega)]
  exact h

theorem costAll_more (x : Inst) (p : Plan) (a b c : Int) : costAll (more x a b c) p = costAll x p := by
  have e : costZ (more x a b c) = costZ x := by
    funext d; unfold costZ; simp only [wayZ_more]
  unfold costAll
  rw [e]
  rfl

def absd (q : Int) : Int := if q < 0 then -(q + 1) else q
theorem absd_ok {q : Int} (h : I64 q) : 0 ≤ absd q ∧ absd q ≤ 9223372036854775807 := by unfold absd I64 at *; split <;> omega

set_option maxRecDepth 20000 in
theorem checkWider_ok (x : Inst) (pick : List Int) (joins : List Bool) (day : Int) (hx : InstOk x) (hpk : ∀ z ∈ pick, I64 z) (hda : I64 day) : Pure Tryz.prog 6 [.agg (instL x), L pick, L joins, I day] (B true) := by
  have hgd := good_days x
  have hgc := good_cap x
  have hgv := good_veh x
  have hgl := good_len x
  have hgn := good_cust x
  have hmade := made_ok (goodI x) (goodI x).days.toNat pick joins (instMade_good x (goodI x).veh (goodI x).cap (goodI x).len (by omega)) hpk
  have hgood := goodI_ok x hx
  have hgo : InstOk (goodI x) := instOk_good x (goodI x).veh (goodI x).cap (goodI x).len (by unfold I64; omega) (by unfold I64; omega) (by unfold I64; omega)
  have hfit := custFits_good x
  have hnn : (goodI x).days.toNat ≤ 7 := by omega
  generalize (goodI x).days.toNat = n at hmade hnn
  have hab := absd_ok hda
  have t1 : (absd day).tmod 1001 = absd day % 1001 := Int.tmod_eq_emod_of_nonneg hab.1
  have t2 : 0 ≤ absd day % 1001 ∧ absd day % 1001 < 1001 := ⟨Int.emod_nonneg _ (by omega), Int.emod_lt_of_pos _ (by omega)⟩
  generalize goodI x = y at *
  generalize hmm : absd day % 1001 = mm at *
  have hzo : InstOk (more y mm mm mm) := by
    refine ⟨hgo.days, ?_, ?_, ?_, hgo.ncust, hgo.cust, hgo.ndist, hgo.dist⟩ <;> (simp only [more]; unfold I64; omega)
  have w1 : IntKind.i64.wrap (y.veh + mm) = y.veh + mm := wr _ (by omega) (by omega)
  have w2 : IntKind.i64.wrap (y.cap + mm) = y.cap + mm := wr _ (by omega) (by omega)
  have w3 : IntKind.i64.wrap (y.len + mm) = y.len + mm := wr _ (by omega) (by omega)
  refine pure_enter Tryz.func6 (by rfl) rfl Tryz.ntmps6 (congrArg Array.toList Tryz.results6) (by simp) fun S nx hd => ?_
  repeat refine pw_seq ?_
  refine pw_N [] (by rfl) (by rfl) fun K Gc Gh hK hGc hGh X hX0 hX => ?_
  simp -implicitDefEqProofs [hX0, hX]
  try clear hX0 hX X
  intro v0
  refine hK _ _ _ ?_
  clear hK hGc hGh
  clear K Gc Gh
  repeat refine pw_seq ?_
  refine pw_N [] (by rfl) (by rfl) fun K Gc Gh hK hGc hGh X hX0 hX => ?_
  simp -implicitDefEqProofs [hX]
  try clear hX0 hX X
  refine hGc _ _ _ _ _ _ _ fun hsuf => ((hgood _).mono ?_).v
  rintro _ _ ⟨rfl, rfl⟩
  refine ⟨_, _, rfl, ?_⟩
  clear hGc hGh
  clear Gc Gh
  refine xs_go hsuf (D := []) (by rfl) fun Gc Gh hGc hGh X hX0 hX => ?_
  simp -implicitDefEqProofs [hX0, hX]
  try clear hX0 hX X
  intro v1
  intros
  refine hK _ _ _ ?_
  clear hK hGc hGh
  clear K Gc Gh
  repeat refine pw_seq ?_
  refine pw_N [] (by rfl) (by rfl) fun K Gc Gh hK hGc hGh X hX0 hX => ?_
  simp -implicitDefEqProofs [hX]
  try clear hX0 hX X
  refine hGc _ _ _ _ _ _ _ fun hsuf => ((hmade _).mono ?_).v
  rintro _ _ ⟨⟨pl, b, rfl, hg⟩, rfl⟩
  refine ⟨_, _, rfl, ?_⟩
  clear hGc hGh
  clear Gc Gh
  refine xs_go hsuf (D := []) (by rfl) fun Gc Gh hGc hGh X hX0 hX => ?_
  simp -implicitDefEqProofs [hX0, hX]
  try clear hX0 hX X
  intro v2
  intros
  refine hK _ _ _ ?_
  clear hK hGc hGh
  clear K Gc Gh
  cases b with
  | false =>
    repeat refine pw_seq ?_
    refine pw_N [(2, 24)] (by rfl) (by rfl) fun K Gc Gh hK hGc hGh X hX0 hX => ?_
    simp -implicitDefEqProofs [hX0, hX, undef]
    try clear hX0 hX X
    intros
    refine hK _ _ _ ?_
    clear hK hGc hGh
    clear K Gc Gh
    repeat refine pw_seq ?_
    refine pw_ct rfl ?_
    repeat refine pw_seq ?_
    refine pw_N [] (by rfl) (by rfl) fun K Gc Gh hK hGc hGh X hX0 hX => ?_
    simp -implicitDefEqProofs [hX]
    try clear hX0 hX X
    refine hGc _ _ _ _ _ _ _ fun hsuf => ((lives_ok _).mono ?_).v
    rintro _ _ ⟨rfl, rfl⟩
    refine ⟨_, _, rfl, ?_⟩
    clear hGc hGh
    clear Gc Gh
    refine xs_go hsuf (D := []) (by rfl) fun Gc Gh hGc hGh X hX0 hX => ?_
    simp -implicitDefEqProofs [hX0, hX]
    try clear hX0 hX X
    intros
    refine hK _ _ _ ?_
    clear hK hGc hGh
    clear K Gc Gh
    repeat refine pw_seq ?_
    exact pw_ret (ret_pure hd (by simp; rfl) rfl)
  | true =>
    obtain ⟨hm, hcnt⟩ := hg rfl
    have hpl := hm.len
    have hsz := made_sz hm (by omega) (by omega) hcnt
    have hsv := made_serves (x := y) hm (by omega) (by omega) hcnt
    have hdo := made_dayOk hm (by omega)
    have hP := planP_ok y pl hgo hsz
    have hQ := planP_ok (more y mm mm mm) pl hzo hsz
    have hC := checkCost_ok y pl hsv (by omega) hfit hdo
    have hD := checkCost_ok (more y mm mm mm) pl ⟨hsv.sz, hsv.q, hsv.days⟩ (show y.cust.length ≤ _ by omega) hfit hdo
    rw [costAll_more] at hD
    repeat refine pw_seq ?_
    refine pw_N [(2, 24)] (by rfl) (by rfl) fun K Gc Gh hK hGc hGh X hX0 hX => ?_
    simp -implicitDefEqProofs [hX]
    try clear hX0 hX X
    refine hGc _ _ _ _ _ _ _ fun hsuf => ((hP _).mono ?_).v
    rintro _ _ ⟨rfl, rfl⟩
    refine ⟨_, _, rfl, ?_⟩
    clear hGc hGh
    clear Gc Gh
    refine xs_go hsuf (D := [(2, 24)]) (by rfl) fun Gc Gh hGc hGh X hX0 hX => ?_
    simp -implicitDefEqProofs [hX0, hX]
    try clear hX0 hX X
    intros
    refine hK _ _ _ ?_
    clear hK hGc hGh
    clear K Gc Gh
    by_cases hpe : planE y pl = 0
    case neg =>
      repeat refine pw_seq ?_
      refine pw_ct (by simp [hpe]) ?_
      repeat refine pw_seq ?_
      refine pw_N [] (by rfl) (by rfl) fun K Gc Gh hK hGc hGh X hX0 hX => ?_
      simp -implicitDefEqProofs [hX]
      try clear hX0 hX X
      refine hGc _ _ _ _ _ _ _ fun hsuf => ((lives_ok _).mono ?_).v
      rintro _ _ ⟨rfl, rfl⟩
      refine ⟨_, _, rfl, ?_⟩
      clear hGc hGh
      clear Gc Gh
      refine xs_go hsuf (D := []) (by rfl) fun Gc Gh hGc hGh X hX0 hX => ?_
      simp -implicitDefEqProofs [hX0, hX]
      try clear hX0 hX X
      intros
      refine hK _ _ _ ?_
      clear hK hGc hGh
      clear K Gc Gh
      repeat refine pw_seq ?_
      exact pw_ret (ret_pure hd (by simp; rfl) rfl)
    repeat refine pw_seq ?_
    refine pw_cf (by simp [hpe]) ?_
    refine pw_skip ?_
    rw [planE_more (by omega) (by omega) (by omega) (by omega) (by omega) (by omega) hpe] at hQ
    repeat refine pw_seq ?_
    refine pw_N [] (by rfl) (by rfl) fun K Gc Gh hK hGc hGh X hX0 hX => ?_
    simp -implicitDefEqProofs [hX0, hX]
    try clear hX0 hX X
    intros
    refine hK _ _ _ ?_
    clear hK hGc hGh
    clear K Gc Gh
    repeat refine pw_seq ?_
    refine pw_joinK (nx := nx) (σ := Unit) (fun _ => True) (fun _ => [(3, I (absd day)), (9, .ptr (nx + 1) v1 0), (10, .ptr (nx + 2) v2 0)]) (fun _ => S) (fun _ => [.cells v0 25 (instL x), .cells v1 25 (instL y), .cells v2 30 [L pl]]) ?_ ?_
    · unfold I64 at hda
      by_cases hn : day < 0
      · have q1 : IntKind.i64.wrap (day + 1) = day + 1 := wr _ (by omega) (by omega)
        have q2 : IntKind.i64.wrap (-(day + 1)) = -(day + 1) := wr _ (by omega) (by omega)
        repeat refine pw_seq ?_
        refine pw_ct (by simp [hn]) ?_
        repeat refine pw_seq ?_
        refine pw_N [] (by rfl) (by rfl) fun K Gc Gh hK hGc hGh X hX0 hX => ?_
        simp -implicitDefEqProofs [hX0, hX, q1, q2]
        try clear hX0 hX X
        intros
        refine hK _ _ _ ?_
        clear hK hGc hGh
        clear K Gc Gh
        exact at_mk () [] trivial (by simp [absd, hn]) rfl (by simp)
      · repeat refine pw_seq ?_
        refine pw_cf (by simp; omega) ?_
        refine pw_skip ?_
        exact at_mk () [] trivial (by simp [absd, hn]) rfl (by simp)
    intro _ _
    simp only
    repeat refine pw_seq ?_
    refine pw_N [] (by rfl) (by rfl) fun K Gc Gh hK hGc hGh X hX0 hX => ?_
    simp -implicitDefEqProofs [hX0, hX]
    try clear hX0 hX X
    intro v3
    refine hK _ _ _ ?_
    clear hK hGc hGh
    clear K Gc Gh
    repeat refine pw_seq ?_
    refine pw_N [] (by rfl) (by rfl) fun K Gc Gh hK hGc hGh X hX0 hX => ?_
    simp -implicitDefEqProofs [hX0, hX, t1, w1]
    try clear hX0 hX X
    intros
    refine hK _ _ _ ?_
    clear hK hGc hGh
    clear K Gc Gh
    repeat refine pw_seq ?_
    refine pw_N [] (by rfl) (by rfl) fun K Gc Gh hK hGc hGh X hX0 hX => ?_
    simp -implicitDefEqProofs [hX0, hX, t1, w2]
    try clear hX0 hX X
    intros
    refine hK _ _ _ ?_
    clear hK hGc hGh
    clear K Gc Gh
    repeat refine pw_seq ?_
    refine pw_N [] (by rfl) (by rfl) fun K Gc Gh hK hGc hGh X hX0 hX => ?_
    simp -implicitDefEqProofs [hX0, hX, t1, w3]
    try clear hX0 hX X
    intros
    refine hK _ _ _ ?_
    clear hK hGc hGh
    clear K Gc Gh
    repeat refine pw_seq ?_
    refine pw_Y (some [nx + 1, nx + 2, nx + 3]) (Row.pures [0, 1, 2, 3, 4, 5, 6, 7, 8, 9, 10, 11, 12, 13, 14, 15, 16] .done) mixed (by rfl) (by rfl) (by rfl) fun K Gp Gc Gh hK hGp hGc hGh X hX0 hX1 hX2 hX => ?_
    simp -implicitDefEqProofs [hX2]
    try clear hX0 hX1 hX2 hX X
    refine hGp _ _ _ _ _ _ _ _ (hQ) ?_
    clear hGp hGc hGh
    clear Gp Gc Gh
    refine px_go fun Gp Gc Gh hGp hGc hGh X hX0 hX1 hX2 hX => ?_
    simp -implicitDefEqProofs [hX2]
    try clear hX0 hX1 hX2 hX X
    refine hGp _ _ _ _ _ _ _ _ (hD) ?_
    clear hGp hGc hGh
    clear Gp Gc Gh
    refine px_go fun Gp Gc Gh hGp hGc hGh X hX0 hX1 hX2 hX => ?_
    simp -implicitDefEqProofs [hX2]
    try clear hX0 hX1 hX2 hX X
    refine hGp _ _ _ _ _ _ _ _ (hC) ?_
    clear hGp hGc hGh
    clear Gp Gc Gh
    refine px_go fun Gp Gc Gh hGp hGc hGh X hX0 hX1 hX2 hX => ?_
    simp -implicitDefEqProofs [hX2]
    try clear hX0 hX1 hX2 hX X
    refine hGp _ _ _ _ _ _ _ _ (lives_ok) ?_
    clear hGp hGc hGh
    clear Gp Gc Gh
    refine px_go fun Gp Gc Gh hGp hGc hGh X hX0 hX1 hX2 hX => ?_
    simp -implicitDefEqProofs [hX0, hX2]
    try clear hX0 hX1 hX2 hX X
    refine hK _ _ _ ?_
    clear hK hGp hGc hGh
    clear K Gp Gc Gh
    repeat refine pw_seq ?_
    exact pw_ret (ret_pure hd (by simp; rfl) rfl)

end Go.Proofs.YtlkcdaeknioanaaGreat.Pv
